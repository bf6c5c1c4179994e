/- A slice of nodes in memory; what From makes of nodes. The walk of tree.From. The walk of Get. A slice of nodes, opened. The walk of Add. The walk of Remove. A tree is cut down from the last path on: what is left. The document's tree, plainly: a list of nodes in order; where a path stands in it. Plain laws: when two structs are equal, as the model has it. The walks of the reference's look whether two nodes are alike. The walk of the reference's Same at any two nodes. -/
import Derived.Test.YthinpbdbhijbgaaGreatDoorJDigestFinds4
import Derived.Test.YthinpbdbhijbgaaGreatDoorJDigestFinds2
namespace Go.Proofs.YthinpbdbhijbgaaGreatDoor
open Go.RowKit

/-- A slice of nodes: each node's seventeen cells in a row, its two slices' cells below a block number. -/
def NdsAt (B : Nat) (w : World) (a : Option Addr) (L : List Nd) : Prop :=
  ∀ i n, L[i]? = some n → ∃ b off v, a = some ⟨b, off, none⟩ ∧ b < B ∧ NdV B w v n ∧ ∀ j u, v.cells[j]? = some u → w.cell? ⟨b, off + i * 17 + j, none⟩ = some u

theorem NdV.below {B : Nat} {w w' : World} {v : Value} {n : Nd} (h : NdV B w v n) (hb : Below B w w') : NdV B w' v n := by
  obtain ⟨da, dc, aa, ac, rfl, h1, h2⟩ := h
  exact ⟨da, dc, aa, ac, rfl, h1.below hb, h2.below hb⟩
theorem NdV.mono {B B' : Nat} {w : World} {v : Value} {n : Nd} (h : NdV B w v n) (hb : B ≤ B') : NdV B' w v n := by
  obtain ⟨da, dc, aa, ac, rfl, h1, h2⟩ := h
  exact ⟨da, dc, aa, ac, rfl, h1.mono hb, h2.mono hb⟩
theorem NdsAt.below {B : Nat} {w w' : World} {a : Option Addr} {L : List Nd} (h : NdsAt B w a L) (hb : Below B w w') : NdsAt B w' a L := fun i n hi => by
  obtain ⟨b, off, v, h1, h2, h3, h4⟩ := h i n hi
  exact ⟨b, off, v, h1, h2, h3.below hb, fun j u hj => (hb.cell (p := ⟨b, off + i * 17 + j, none⟩) h2).trans (h4 j u hj)⟩

theorem addr_add (b o j : Nat) : (⟨b, o, none⟩ : Addr).add j = ⟨b, o + j, none⟩ := by unfold Addr.add; split <;> simp_all

/-- A struct is read out of the middle of a block. -/
theorem run_loadVar_at {P : Program} (w : World) (p : Addr) (ty : TypeId) (cs : Array Value) (d : TypeDesc) (hc : ∀ j u, cs[j]? = some u → w.cell? (p.add j) = some u) (hu : P.underlying ty = some d) (hd : oneD d = false) (hi : (P.info? ty).map (·.size) = some cs.size) :
    (loadVar ty p).run P w = .ok (.agg cs) w := by
  have hl : (loadCells p cs.toList.length).run P w = .ok cs.toList.toArray w := run_loadCells_list (P := P) w p cs.toList (fun j v hv => hc j v (by simpa using hv))
  cases hq : P.info? ty with
  | none => simp [hq] at hi
  | some i =>
    have hs : i.size = cs.size := by simpa [hq] using hi
    have hsz : (sizeOf ty).run P w = .ok i.size w := by simp [sizeOf, typeInfo, hq]
    simp only [loadVar, isAgg, Sem.run_bind, run_underlying hu, Result.andThen_ok]
    have he : cs.toList.length = cs.size := Array.length_toList
    rw [he] at hl
    cases d <;> first | (simp [oneD] at hd; done) | (simp [Sem.run, hsz, hs, hl, Result.andThen])

theorem wpList_load_at {P : Program} {w : World} {ops : Array Oper} {rest : List Oper} {o : Oper} {a : Act} {Q : Exit → Act → World → Prop} (hg : o.guard = none) (ty : TypeId) (x : Operand) (ho : o.op = .load ty x) (p : Addr) (hx : a.eval x = .pointer (some p))
    (cs : Array Value) (d : TypeDesc) (hc : ∀ j u, cs[j]? = some u → w.cell? (p.add j) = some u) (hu : P.underlying ty = some d) (hd : oneD d = false) (hi : (P.info? ty).map (·.size) = some cs.size)
    (hK : wpList P ops Q rest (a.put o.dst (.agg cs)) w) : wpList P ops Q (o :: rest) a w :=
  wpList_plain hg fun K hK' => by
    unfold Oper.wp execOp
    simp only [ho, hx, Instr.loadAt, Instr.sureAddr, Sem.run_bind, Sem.run_pure, Result.andThen_ok, run_loadVar_at w p ty cs d hc hu hd hi]
    exact hK' _ _ hK

/-- What From makes of nodes: the tree, or the place and the number of what is wrong. -/
def fromL : List Nd → Nat → List (Key × Nd) → Except (Nat × Int) (List (Key × Nd))
  | [], _, M => .ok M
  | n :: l, i, M => if rightN n ≠ 0 then .error (i, rightN n) else if (mget M (keyN n)).isSome = true then .error (i, 71) else fromL l (i + 1) (mput M (keyN n) n)
def parL (M : List (Key × Nd)) : List Nd → Nat → Except (Nat × Int) Unit
  | [], _ => .ok ()
  | n :: l, i => if n.path.size ≠ 1 ∧ mget M (parentB n.path).data.toList = none then .error (i, 73) else parL M l (i + 1)
def fromN (L : List Nd) : Except (Nat × Int) (List (Key × Nd)) :=
  match fromL L 0 [] with
  | .error e => .error e
  | .ok M => if mget M [47] = none then .error (0, 70) else match parL M L 0 with
    | .error e => .error e
    | .ok _ => .ok M

theorem fromL_step (L : List Nd) (k : Nat) (n : Nd) (M : List (Key × Nd)) (h : L[k]? = some n) : fromL (L.drop k) k M = if rightN n ≠ 0 then .error (k, rightN n) else if (mget M (keyN n)).isSome = true then .error (k, 71) else fromL (L.drop (k + 1)) (k + 1) (mput M (keyN n) n) := by
  obtain ⟨hk, e⟩ := List.getElem?_eq_some_iff.1 h
  rw [List.drop_eq_getElem_cons hk, e]; rfl
theorem parL_step (M : List (Key × Nd)) (L : List Nd) (k : Nat) (n : Nd) (h : L[k]? = some n) : parL M (L.drop k) k = if n.path.size ≠ 1 ∧ mget M (parentB n.path).data.toList = none then .error (k, 73) else parL M (L.drop (k + 1)) (k + 1) := by
  obtain ⟨hk, e⟩ := List.getElem?_eq_some_iff.1 h
  rw [List.drop_eq_getElem_cons hk, e]; rfl
theorem fromL_right : ∀ (l : List Nd) (i : Nat) (M0 M : List (Key × Nd)), fromL l i M0 = .ok M → ∀ n ∈ l, rightN n = 0
  | [], _, _, _, _, n, hn => by simp at hn
  | x :: l, i, M0, M, h, n, hn => by
    unfold fromL at h
    split at h
    · cases h
    · rename_i hx
      split at h
      · cases h
      · rcases List.mem_cons.1 hn with rfl | hn
        · simpa using hx
        · exact fromL_right l _ _ _ h n hn

/-- What a look into the map of nodes gives. -/
theorem NodesAt.look {S : Nat → Prop} {w : World} {bn : Nat} {M : List (Key × Nd)} {N : Nat} (h : NodesAt S w bn M N) (s : ByteArray) (hs : s.size ≤ maxLen) :
    ∃ cs, (cs.size = 17 ∧ cs.all (·.oneCell') = true) ∧ (Instr.lookup 120 (.map (some bn)) (.string s) true).run Tryz.prog w = .ok (.tuple #[.agg cs, .bool (mget M s.data.toList).isSome]) w ∧
      (Instr.lookup 120 (.map (some bn)) (.string s) false).run Tryz.prog w = .ok (.agg cs) w ∧
      ∀ n, mget M s.data.toList = some n → NdS S w (.agg cs) n := by
  obtain ⟨mm, hm, hr⟩ := h.ex
  have q1 := SMap.look_ok (e := 44) hm strT Tryz.underlying120 (z := .agg zeroNd) (by kernel_rfl) hs
  have q2 := SMap.look (e := 44) hm strT Tryz.underlying120 (z := .agg zeroNd) (by kernel_rfl) hs
  rcases hr.get s.data.toList with ⟨h1, h2⟩ | ⟨y, v, h1, h2, h3⟩
  · rw [h2] at q1 q2
    exact ⟨zeroNd, ⟨rfl, by simp [zeroNd, Value.oneCell']⟩, by rw [h1]; exact q1, q2, fun n hn => by rw [h1] at hn; cases hn⟩
  · obtain ⟨da, dc, aa, ac, rfl, h4⟩ := h3
    rw [h2] at q1 q2
    exact ⟨_, ⟨rfl, cells_node _ _ _ _ _ _ _⟩, by rw [h1]; exact q1, q2, fun n hn => by rw [h1] at hn; cases hn; exact ⟨da, dc, aa, ac, rfl, h4⟩⟩
end Go.Proofs.YthinpbdbhijbgaaGreatDoor
namespace Go.Proofs.YthinpbdbhijbgaaGreatDoor
open Go.RowKit
set_option maxHeartbeats 2000000
set_option maxRecDepth 100000

theorem world_ext {u v : World} (h1 : u.heap = v.heap) (h2 : u.tape = v.tape) (h3 : u.drawn = v.drawn) (h4 : u.os = v.os) (h5 : u.output = v.output) : u = v := by
  cases u; cases v; simp_all
theorem setRow_alloc (w : World) (z cs : Array Value) (t : TypeId) : (w.alloc (.cells z t)).setRow w.heap.size cs = w.alloc (.cells cs t) := by
  refine world_ext ?_ rfl rfl rfl rfl
  apply Array.ext_getElem?
  intro i
  by_cases h : i = w.heap.size
  · subst h
    rw [setRow_heap _ _ _ _ _ _ (heap_alloc_new w (.cells z t)), heap_alloc_new]
  · rw [setRow_other _ _ _ _ h]
    show (w.heap.push _)[i]? = (w.heap.push _)[i]?
    rw [Array.getElem?_push, Array.getElem?_push, if_neg h, if_neg h]

def FromOut (L : List Nd) (w : World) (e : Ending) (w' : World) : Prop :=
  match fromN L with
  | .error (i, x) => e = .returned (.tuple #[.pointer none, .int .i64 i, .int .i64 x]) ∧ Ext w w'
  | .ok M => ∃ b, e = .returned (.tuple #[.pointer (some ⟨b, 0, none⟩), .int .i64 0, .int .i64 0]) ∧ TreeAt (fun k => w.heap.size ≤ k ∧ k < w'.heap.size) w' b M L.length ∧ Ext w w'

theorem fromOut_err {L : List Nd} {w w' : World} {i : Nat} {x : Int} (h : fromN L = .error (i, x)) (hb : Ext w w') : FromOut L w (.returned (.tuple #[.pointer none, .int .i64 i, .int .i64 x])) w' := by
  unfold FromOut; rw [h]; exact ⟨rfl, hb⟩

theorem from_any (L : List Nd) (a : Option Addr) (c : Nat) (w : World) (hT0 : Tabs w) (hL : NdsAt w.heap.size w a L) (hf : ∀ n ∈ L, Fit n) (hl : L.length ≤ 140737488355328) : Calls Tryz.prog 51 #[.slice a L.length c] w (FromOut L w) := by
  have hz := emptyW_size w
  have hE := emptyW_ext w
  have hTr := tree_empty w
  have hmm := @run_makeMap Tryz.prog
  obtain ⟨W1, hW1⟩ : ∃ W1, W1 = emptyW w := ⟨_, rfl⟩
  rw [← hW1] at hz hE hTr
  have HW1 := Lib.hid hW1
  unfold emptyW treeC at HW1
  have hl2 : L.length ≤ 9223372036854775807 := by omega
  clear hW1
  go_enter Tryz.func51, Tryz.ntmps51
  go_wp2
  rw [← HW1.out]
  clear hmm
  go_loopw [25] (fun i wr => ∃ (k : Nat) (M : List (Key × Nd)), k ≤ L.length ∧ i = .int .i64 k ∧ Hid (fromL L 0 [] = fromL (L.drop k) k M) ∧ TreeAt (fun b => w.heap.size ≤ b ∧ b < wr.heap.size) wr (w.heap.size + 1 + 1) M k ∧ Below w.heap.size w wr) (fun i _ => L.length - (intOf i).toNat)
  case atStart => exact ⟨0, [], Nat.zero_le _, rfl, rfl, hTr, hE⟩
  case round =>
    obtain ⟨k, M, hk, rfl, HF, hT, hB⟩ := hrel
    by_cases hlt : k < L.length
    · have hLk : L[k]? = some L[k] := List.getElem?_eq_getElem hlt
      have hfk := hf L[k] (List.getElem_mem hlt)
      have HS := Lib.hid (HF.out.trans (fromL_step L k L[k] M hLk))
      obtain ⟨b, off, v, rfl, hb, hv, hc⟩ := hL k L[k] hLk
      have hLb := hL
      generalize L[k] = n at *
      obtain ⟨da, dc, aa, ac, rfl, hD, hA⟩ := hv
      have hcw : ∀ j u, (ndC n (.slice da n.data.length dc) (.slice aa n.acl.length ac))[j]? = some u → wr.cell? ((⟨b, off + k * 17, none⟩ : Addr).add j) = some u := fun j u hj => by
        rw [addr_add, hB.cell (p := ⟨b, off + k * 17 + j, none⟩) hb]
        exact hc j u hj
      have hDr := (hD.below hB).mono hB.size
      have hAr := (hA.below hB).mono hB.size
      obtain ⟨W2, hW2⟩ : ∃ W2, W2 = wr.alloc (.cells (ndC n (.slice da n.data.length dc) (.slice aa n.acl.length ac)) 44) := ⟨_, rfl⟩
      have he2 : Ext wr W2 := by rw [hW2]; exact Ext.alloc _ _
      have hn2 : W2.heap[wr.heap.size]? = some (.cells (ndC n (.slice da n.data.length dc) (.slice aa n.acl.length ac)) 44 (0, 0)) := by rw [hW2]; exact heap_alloc_new wr _
      have hz2 : W2.heap.size = wr.heap.size + 1 := by rw [hW2]; simp
      have hT2 := hT.ext he2
      have hB2 : Below w.heap.size w W2 := hB.trans (he2.mono hB.size)
      have hu2 : Tabs W2 := hT0.below hB2 hT0.size
      have hD2 := hDr.ext he2
      have hA2 := hAr.ext he2
      have CR := right_any n da aa dc ac W2 hfk hu2 hA2
      have hset := setRow_alloc wr zeroNd (ndC n (.slice da n.data.length dc) (.slice aa n.acl.length ac)) 44
      have HC := Lib.hid hcw
      have HN := Lib.hid hn2
      have HT := Lib.hid hT2
      have HSET := Lib.hid (hset.trans hW2.symm)
      have HNew := Lib.hid (heap_alloc_new wr (.cells zeroNd 44))
      have CR := Lib.hid CR
      have HL := Lib.hid hLb
      unfold ndC at HC HN CR HSET
      unfold zeroNd at HSET HNew
      clear hcw hn2 hT2 hset hW2 hc hL hT hDr hAr hD hA hLb
      go_wp2_with (first | (refine wpList_load_at rfl 44 (.tmp 28) rfl _ rfl _ _ HC.out Tryz.underlying44 rfl sizeNd ?_) | (refine wpList_store_row rfl 44 (.tmp 7) (.tmp 29) rfl wr.heap.size _ rfl rfl 44 _ HNew.out sizeNd rfl (cells_node n da aa _ _ dc ac) ?_; rw [HSET.out]) | (refine wpList_load_row rfl 44 (.tmp 7) rfl wr.heap.size rfl 44 _ (0, 0) _ HN.out Tryz.underlying44 rfl sizeNd ?_))
      refine CR.out.mono ?_
      rintro e w3 ⟨rfl, hb3⟩
      have hE3 : Ext W2 w3 := hb3
      have hB3 : Below w.heap.size w w3 := hB2.trans (hE3.mono hB2.size)
      by_cases hr : rightN n = 0
      · rw [hr]
        have HR := Lib.hid hr
        have hT3 := HT.out.ext hE3
        have hn3 := (hE3.block wr.heap.size (by omega)).trans HN.out
        have hD3 := hD2.ext hE3
        have hA3 := hA2.ext hE3
        obtain ⟨bn, bk, K, hd, hNd, hKd⟩ := hT3
        have hps : n.path.size ≤ maxLen := by
          have := (vpath_facts (right_vpath hr)).2.1
          unfold maxLen; omega
        clear hr CR HC HN HSET HNew hb3 hz2 hD2 hA2 he2 hB2 hu2
        go_wp2
        refine there_region _ _ _ _ _ _ _ _ _ _ _ _ 5 7 _ 91 rfl (by decide) (by decide) (by decide) hd hNd wr.heap.size n.path _ hn3 rfl hps rfl rfl ?_
        intro v0 v1 v2 v3 v4 v5 v6 v7 v8 v9 v10 w4 hE4
        simp only [Act.put]
        go_simp
        rename_i hK
        refine hK _ _ ?_
        have hB4 : Below w.heap.size w w4 := hB3.trans (hE4.mono hB3.size)
        have hT4 : TreeAt (fun b => w.heap.size ≤ b ∧ b < wr.heap.size) w4 (w.heap.size + 1 + 1) M k := TreeAt.ext ⟨bn, bk, K, hd, hNd, hKd⟩ hE4
        have hD4 := hD3.ext hE4
        have hA4 := hA3.ext hE4
        have hn4 := (hE4.block wr.heap.size (Array.getElem?_eq_some_iff.1 hn3).1).trans hn3
        clear hd hNd hKd hn3 hD3 hA3 hB3
        cases hg : mget M n.path.data.toList with
        | some y =>
          have hfin : FromOut L w (.returned (.tuple #[.pointer none, .int .i64 k, .int .i64 71])) w4 := fromOut_err (by
            unfold fromN
            rw [HS.out, if_neg (by rw [HR.out]; simp), if_pos (by unfold keyN; rw [hg]; rfl)]) hB4
          have HFIN := Lib.hid hfin
          clear hfin hT4 hB4 hD4 hA4 hn4 hg HS
          go_wp2
          go_ret3
          exact HFIN.out
        | none =>
          have C3 := lay_any _ w4 _ M k hT4 n da aa dc ac HR.out hg (by omega) hD4 hA4
          have HS2 := Lib.hid (HS.out.trans (by rw [if_neg (by rw [HR.out]; simp), if_neg (by unfold keyN; rw [hg]; simp)]))
          have HN4 := Lib.hid hn4
          have C3 := Lib.hid C3
          unfold ndC at HN4 C3
          have hz4 : wr.heap.size ≤ w4.heap.size := by have := (Array.getElem?_eq_some_iff.1 hn4).1; omega
          clear hT4 hD4 hA4 hn4 hg HS
          go_wp2_with (refine wpList_load_row rfl 44 (.tmp 7) rfl wr.heap.size rfl 44 _ (0, 0) _ HN4.out Tryz.underlying44 rfl sizeNd ?_)
          refine C3.out.mono ?_
          rintro e w5 ⟨rfl, hT5, hM5⟩
          have hz5 := hM5.size
          have hB5 : Below w.heap.size w w5 := hB4.trans (hM5.below (fun b hb => hb.1) (by have := hB4.size; omega))
          have HT5 := Lib.hid hT5
          have hzw := hB.size
          clear C3 HN4 hT5 hM5 hB4
          go_wp2
          go_roundw
          case rel =>
            exact ⟨k + 1, _, by omega, by go_num, HS2.out, HT5.out.keep (fun _ _ => rfl) (fun b hb => ⟨by rcases hb with h | h <;> omega, HT5.out.bound b hb⟩) (fun b hb => hb.2) (Nat.le_refl _), hB5⟩
          case measure => simp [intOf]; omega
      · have hne : (rightN n != 0) = true := by simpa using hr
        have hfin : FromOut L w (.returned (.tuple #[.pointer none, .int .i64 k, .int .i64 (rightN n)])) w3 := fromOut_err (by
          unfold fromN
          rw [HS.out, if_pos hr]) hB3
        have HFIN := Lib.hid hfin
        clear hfin hr HS CR HC HN HSET HNew HT hb3 hE3 hB3 hB2 hD2 hA2 he2 hu2
        go_wp2
        go_ret3
        exact HFIN.out
    · obtain rfl : k = L.length := by omega
      have HF2 : Hid (fromL L 0 [] = .ok M) := by
        have := HF.out
        rw [List.drop_length] at this
        exact this
      obtain ⟨bn, bk, K, hd, hNd, hKd⟩ := hT
      have hT : TreeAt (fun b => w.heap.size ≤ b ∧ b < wr.heap.size) wr (w.heap.size + 1 + 1) M L.length := ⟨bn, bk, K, hd, hNd, hKd⟩
      have hbox : Box wr (w.heap.size + 1 + 1) (treeC bn bk) := fun j => cell_of_row _ _ _ _ _ _ hd.blk
      obtain ⟨cs, ⟨hc17, hc1⟩, hq, _, _⟩ := hNd.look ⟨#[47]⟩ (by unfold maxLen; decide)
      have hsz17 : (Tryz.prog.info? 44).map (·.size) = some cs.size := by rw [hc17]; exact sizeNd
      have hzs : zeroNd.size = cs.size := by rw [hc17]; rfl
      obtain ⟨W2, hW2⟩ : ∃ W2, W2 = wr.alloc (.cells cs 44) := ⟨_, rfl⟩
      have HSET := Lib.hid ((setRow_alloc wr zeroNd cs 44).trans hW2.symm)
      have HNew := Lib.hid (heap_alloc_new wr (.cells zeroNd 44))
      have hE2 : Ext wr W2 := by rw [hW2]; exact Ext.alloc _ _
      have hB2 : Below w.heap.size w W2 := hB.trans (hE2.mono hB.size)
      have hT2 : TreeAt (fun b => w.heap.size ≤ b ∧ b < W2.heap.size) W2 (w.heap.size + 1 + 1) M L.length := (hT.ext hE2).keep (fun _ _ => rfl) (fun b hb => ⟨hb.1, Nat.lt_of_lt_of_le hb.2 hE2.size⟩) (fun b hb => hb.2) (Nat.le_refl _)
      have hhid := Lib.hid hzs
      change Hid (zeroNd.size = cs.size) at hhid
      unfold zeroNd at HSET HNew
      unfold Box treeC at hbox
      have hkl : ((⟨#[47]⟩ : ByteArray)).data.toList = [47] := rfl
      rw [hkl] at hq
      have HC1 := Lib.hid hc1
      have H17 := Lib.hid hsz17
      clear hW2 hd hNd hKd hT hzs hc1 hc17 hsz17 hkl
      cases hg : mget M [47] with
      | none =>
        rw [hg] at hq
        have hq' : (Instr.lookup 120 (.map (some bn)) (.string ⟨#[47]⟩) true).run Tryz.prog wr = .ok (.tuple #[.agg cs, .bool false]) wr := hq
        have hfin : FromOut L w (.returned (.tuple #[.pointer none, .int .i64 0, .int .i64 70])) W2 := fromOut_err (i := 0) (by
          unfold fromN
          rw [HF2.out]
          simp only
          rw [if_pos hg]) hB2
        have HFIN := Lib.hid hfin
        clear hq hfin hg hT2 hE2 hB2
        go_wp2_with (refine wpList_store_row rfl 44 (.tmp 11) (.tmp 58) rfl wr.heap.size _ rfl rfl 44 _ HNew.out H17.out hhid.out HC1.out ?_; rw [HSET.out])
        go_ret3
        exact HFIN.out
      | some y0 =>
        rw [hg] at hq
        have hq' : (Instr.lookup 120 (.map (some bn)) (.string ⟨#[47]⟩) true).run Tryz.prog wr = .ok (.tuple #[.agg cs, .bool true]) wr := hq
        have HG := Lib.hid hg
        have HRt := Lib.hid (fromL_right L 0 [] M HF2.out)
        clear hq hg hE2
        go_wp2_with (refine wpList_store_row rfl 44 (.tmp 11) (.tmp 58) rfl wr.heap.size _ rfl rfl 44 _ HNew.out H17.out hhid.out HC1.out ?_; rw [HSET.out])
        clear hq' HNew HSET hhid H17 HC1 hbox
        generalize wr.heap.size = gx
        go_loopw [64] (fun i wt => ∃ k : Nat, k ≤ L.length ∧ i = .int .i64 k ∧ Hid (parL M L 0 = parL M (L.drop k) k) ∧ TreeAt (fun b => w.heap.size ≤ b ∧ b < wt.heap.size) wt (w.heap.size + 1 + 1) M L.length ∧ Below w.heap.size w wt) (fun i _ => L.length - (intOf i).toNat)
        case atStart => exact ⟨0, Nat.zero_le _, rfl, rfl, hT2, hB2⟩
        case round =>
          obtain ⟨k, hk, rfl, HP, hT3, hB3⟩ := hrel
          by_cases hlt : k < L.length
          · have hLk : L[k]? = some L[k] := List.getElem?_eq_getElem hlt
            have hrk := HRt.out L[k] (List.getElem_mem hlt)
            have HS := Lib.hid (HP.out.trans (parL_step M L k L[k] hLk))
            obtain ⟨b, off, v, rfl, hb, hv, hc⟩ := hL k L[k] hLk
            have HL := Lib.hid hL
            generalize L[k] = n at *
            obtain ⟨da, dc, aa, ac, rfl, hD, hA⟩ := hv
            have hcw : ∀ j u, (ndC n (.slice da n.data.length dc) (.slice aa n.acl.length ac))[j]? = some u → wr.cell? ((⟨b, off + k * 17, none⟩ : Addr).add j) = some u := fun j u hj => by
              rw [addr_add, hB3.cell (p := ⟨b, off + k * 17 + j, none⟩) hb]
              exact hc j u hj
            obtain ⟨W4, hW4⟩ : ∃ W4, W4 = wr.alloc (.cells (ndC n (.slice da n.data.length dc) (.slice aa n.acl.length ac)) 44) := ⟨_, rfl⟩
            have hE4 : Ext wr W4 := by rw [hW4]; exact Ext.alloc _ _
            have hn4 : W4.heap[wr.heap.size]? = some (.cells (ndC n (.slice da n.data.length dc) (.slice aa n.acl.length ac)) 44 (0, 0)) := by rw [hW4]; exact heap_alloc_new wr _
            have hz4 : W4.heap.size = wr.heap.size + 1 := by rw [hW4]; simp
            have hT4 := hT3.ext hE4
            have hB4 : Below w.heap.size w W4 := hB3.trans (hE4.mono hB3.size)
            have hx4 : Box W4 wr.heap.size (ndC n (.slice da n.data.length dc) (.slice aa n.acl.length ac)) := fun j => cell_of_row _ _ _ _ _ _ hn4
            have hvp := right_vpath hrk
            have hvf := vpath_facts hvp
            have CP := parent_any n.path W4 (by omega)
            have HC := Lib.hid hcw
            have HN := Lib.hid hn4
            have HSET := Lib.hid ((setRow_alloc wr zeroNd (ndC n (.slice da n.data.length dc) (.slice aa n.acl.length ac)) 44).trans hW4.symm)
            have HNew := Lib.hid (heap_alloc_new wr (.cells zeroNd 44))
            have HT4 := Lib.hid hT4
            have hwt := hB3.size
            unfold ndC at HC HN HSET
            unfold zeroNd at HSET HNew
            unfold Box ndC at hx4
            clear hcw hn4 hW4 hc hL hD hA hT3 hT4 hB3 hvf
            by_cases hroot : n.path.size = 1
            · rw [show parV n.path = .tuple #[.string ⟨#[]⟩, .int .i64 30] by unfold parV; rw [if_neg (fun h => h.2 hroot)]] at CP
              have HS2 := Lib.hid (HS.out.trans (by rw [if_neg (fun h => h.1 hroot)]))
              have CP := Lib.hid CP
              clear hroot HS hvp hrk
              go_wp2_with (first | (refine wpList_load_at rfl 44 (.tmp 67) rfl _ rfl _ _ HC.out Tryz.underlying44 rfl sizeNd ?_) | (refine wpList_store_row rfl 44 (.tmp 14) (.tmp 68) rfl wr.heap.size _ rfl rfl 44 _ HNew.out sizeNd rfl (cells_node n da aa _ _ dc ac) ?_; rw [HSET.out]))
              refine CP.out.mono ?_
              rintro e w5 ⟨rfl, hb5⟩
              have hE5 : Ext W4 w5 := hb5
              have hz5 := hE5.size
              have hB5 : Below w.heap.size w w5 := hB4.trans (hE5.mono hB4.size)
              have HT5 := Lib.hid (HT4.out.ext hE5)
              clear CP HC HN HSET HNew hx4 hb5 hB4 HT4
              go_wp2
              go_roundw
              case rel => exact ⟨k + 1, by omega, by go_num, HS2.out, HT5.out.keep (fun _ _ => rfl) (fun b hb => ⟨hb.1, HT5.out.bound b hb⟩) (fun b hb => hb.2) (Nat.le_refl _), hB5⟩
              case measure => simp [intOf]; omega
            · rw [show parV n.path = .tuple #[.string (parentB n.path), .int .i64 0] by unfold parV; rw [if_pos ⟨hvp, hroot⟩]] at CP
              have hps : (parentB n.path).size ≤ maxLen := by
                have := (path_split hvp hroot).2.2.1
                have := (vpath_facts hvp).2.1
                unfold maxLen; omega
              have CP := Lib.hid CP
              have HRoot := Lib.hid hroot
              clear hroot hvp hrk
              go_wp2_with (first | (refine wpList_load_at rfl 44 (.tmp 67) rfl _ rfl _ _ HC.out Tryz.underlying44 rfl sizeNd ?_) | (refine wpList_store_row rfl 44 (.tmp 14) (.tmp 68) rfl wr.heap.size _ rfl rfl 44 _ HNew.out sizeNd rfl (cells_node n da aa _ _ dc ac) ?_; rw [HSET.out]))
              refine CP.out.mono ?_
              rintro e w5 ⟨rfl, hb5⟩
              have hE5 : Ext W4 w5 := hb5
              have hz5 := hE5.size
              have hB5 : Below w.heap.size w w5 := hB4.trans (hE5.mono hB4.size)
              have hT5 := HT4.out.ext hE5
              obtain ⟨bn, bk, K, hd, hNd, hKd⟩ := hT5
              have hT5 : TreeAt (fun b => w.heap.size ≤ b ∧ b < wr.heap.size) w5 (w.heap.size + 1 + 1) M L.length := ⟨bn, bk, K, hd, hNd, hKd⟩
              have hbox : Box w5 (w.heap.size + 1 + 1) (treeC bn bk) := fun j => cell_of_row _ _ _ _ _ _ hd.blk
              obtain ⟨cs, ⟨hc17, hc1⟩, hq, _, _⟩ := hNd.look (parentB n.path) hps
              have hsz17 : (Tryz.prog.info? 44).map (·.size) = some cs.size := by rw [hc17]; exact sizeNd
              have hzs : zeroNd.size = cs.size := by rw [hc17]; rfl
              obtain ⟨W6, hW6⟩ : ∃ W6, W6 = w5.alloc (.cells cs 44) := ⟨_, rfl⟩
              have HSET6 := Lib.hid ((setRow_alloc w5 zeroNd cs 44).trans hW6.symm)
              have HNew6 := Lib.hid (heap_alloc_new w5 (.cells zeroNd 44))
              have hE6 : Ext w5 W6 := by rw [hW6]; exact Ext.alloc _ _
              have hz6 := hE6.size
              have hB6 : Below w.heap.size w W6 := hB5.trans (hE6.mono hB5.size)
              have HT6 := Lib.hid (hT5.ext hE6)
              have hhid := Lib.hid hzs
              change Hid (zeroNd.size = cs.size) at hhid
              unfold zeroNd at HSET6 HNew6
              unfold Box treeC at hbox
              have HC1 := Lib.hid hc1
              have H17 := Lib.hid hsz17
              clear hW6 hd hNd hKd hT5 hzs hc1 hc17 hsz17 CP HC HN HSET HNew hx4 hb5 hB4 HT4 hE6 hE5 hB5
              cases hg : mget M (parentB n.path).data.toList with
              | none =>
                rw [hg] at hq
                have hq' : (Instr.lookup 120 (.map (some bn)) (.string (parentB n.path)) true).run Tryz.prog w5 = .ok (.tuple #[.agg cs, .bool false]) w5 := hq
                have hfin : FromOut L w (.returned (.tuple #[.pointer none, .int .i64 k, .int .i64 73])) W6 := fromOut_err (by
                  unfold fromN
                  rw [HF2.out]
                  simp only
                  rw [if_neg (by rw [HG.out]; simp), HS.out, if_pos ⟨HRoot.out, hg⟩]) hB6
                have HFIN := Lib.hid hfin
                clear hq hfin hg hB6 HS HT6
                go_wp2_with (refine wpList_store_row rfl 44 (.tmp 17) (.tmp 84) rfl w5.heap.size _ rfl rfl 44 _ HNew6.out H17.out hhid.out HC1.out ?_; rw [HSET6.out])
                go_ret3
                exact HFIN.out
              | some y1 =>
                rw [hg] at hq
                have hq' : (Instr.lookup 120 (.map (some bn)) (.string (parentB n.path)) true).run Tryz.prog w5 = .ok (.tuple #[.agg cs, .bool true]) w5 := hq
                have HS2 := Lib.hid (HS.out.trans (by rw [if_neg (fun h => by rw [hg] at h; cases h.2)]))
                clear hq hg HS
                go_wp2_with (refine wpList_store_row rfl 44 (.tmp 17) (.tmp 84) rfl w5.heap.size _ rfl rfl 44 _ HNew6.out H17.out hhid.out HC1.out ?_; rw [HSET6.out])
                go_roundw
                case rel => exact ⟨k + 1, by omega, by go_num, HS2.out, HT6.out.keep (fun _ _ => rfl) (fun b hb => ⟨hb.1, HT6.out.bound b hb⟩) (fun b hb => hb.2) (Nat.le_refl _), hB6⟩
                case measure => simp [intOf]; omega
          · obtain rfl : k = L.length := by omega
            have hfin : FromOut L w (.returned (.tuple #[.pointer (some ⟨w.heap.size + 1 + 1, 0, none⟩), .int .i64 0, .int .i64 0])) wr := by
              unfold FromOut fromN
              rw [HF2.out]
              simp only
              rw [if_neg (by rw [HG.out]; simp), HP.out, List.drop_length]
              exact ⟨_, rfl, hT3, hB3⟩
            have HFIN := Lib.hid hfin
            clear hfin hT3 hB3 HP HG HF2
            go_wp2
            go_ret3
            exact HFIN.out
end Go.Proofs.YthinpbdbhijbgaaGreatDoor
namespace Go.Proofs.YthinpbdbhijbgaaGreatDoor
open Go.RowKit
set_option maxHeartbeats 2000000
set_option maxRecDepth 100000

theorem results_cell_row2 {P : Program} {fn : Func} {p q : Tmp} {ty : TypeId} (h : fn.results = #[.cell p ty, .tmp q]) (tmps : Array Value) (w : World) (g : Nat) (t : TypeId) (cs : Array Value) (fr : Nat × Nat) (d : TypeDesc) (v : Value)
    (hp : tmps.getD p undef = .pointer (some ⟨g, 0, none⟩)) (hq : tmps.getD q undef = v) (hg : w.heap[g]? = some (.cells cs t fr))
    (hu : P.underlying ty = some d) (hd : (match d with | .struct _ | .array _ _ => true | _ => false) = true) (hi : (P.info? ty).map (·.size) = some cs.size) :
    (results fn tmps).run P w = .ok (.tuple #[.agg cs, v]) w := by
  have hp' : tmps[p]?.getD undef = .pointer (some ⟨g, 0, none⟩) := by simpa using hp
  have hq' : tmps[q]?.getD undef = v := by simpa using hq
  simp [results, h, hp', hq', asAddr, run_loadVar_row w g t ty cs fr d hg hu hd hi]

theorem TreeAt.box {S : Nat → Prop} {w : World} {bt bn bk : Nat} (hd : Hd S w bt bn bk) : Box w bt (treeC bn bk) := fun j => cell_of_row _ _ _ _ _ _ hd.blk

def zeroN : Nd := ⟨⟨#[]⟩, [], [], 0, 0, 0, 0, 0, 0, 0, 0, 0, 0, 0, false, 0, 0⟩
theorem zeroN_fit : Fit zeroN := ⟨by simp [zeroN, ByteArray.size], by simp [zeroN], by simp [zeroN], fun x hx => by simp [zeroN] at hx⟩
theorem zeroN_nds (S : Nat → Prop) (w : World) : NdS S w (.agg zeroNd) zeroN := ⟨none, 0, none, 0, rfl, fun j u h => by simp [zeroN] at h, fun j u h => by simp [zeroN, acCs] at h⟩

theorem NodesAt.look' {S : Nat → Prop} {w : World} {bn : Nat} {M : List (Key × Nd)} {N : Nat} (h : NodesAt S w bn M N) (s : ByteArray) (hs : s.size ≤ maxLen) :
    ∃ v, NdS S w v ((mget M s.data.toList).getD zeroN) ∧ (Instr.lookup 120 (.map (some bn)) (.string s) true).run Tryz.prog w = .ok (.tuple #[v, .bool (mget M s.data.toList).isSome]) w ∧
      (Instr.lookup 120 (.map (some bn)) (.string s) false).run Tryz.prog w = .ok v w := by
  obtain ⟨mm, hm, hr⟩ := h.ex
  have q1 := SMap.look_ok (e := 44) hm strT Tryz.underlying120 (z := .agg zeroNd) (by kernel_rfl) hs
  have q2 := SMap.look (e := 44) hm strT Tryz.underlying120 (z := .agg zeroNd) (by kernel_rfl) hs
  rcases hr.get s.data.toList with ⟨h1, h2⟩ | ⟨y, v, h1, h2, h3⟩
  · rw [h2] at q1 q2
    rw [h1]
    exact ⟨.agg zeroNd, zeroN_nds S w, q1, q2⟩
  · rw [h2] at q1 q2
    rw [h1]
    exact ⟨v, h3, q1, q2⟩

theorem MOk.fit {M : List (Key × Nd)} (h : MOk M) (k : Key) : Fit ((mget M k).getD zeroN) := by
  cases hg : mget M k with
  | none => exact zeroN_fit
  | some n => exact (right_fit (h.at hg).2).1

def GetOut (M : List (Key × Nd)) (s : ByteArray) (w : World) (e : Ending) (w' : World) : Prop :=
  ∃ v, e = .returned (.tuple #[v, .bool (mget M s.data.toList).isSome]) ∧ NdS (fun b => w.heap.size ≤ b ∧ b < w'.heap.size) w' v ((mget M s.data.toList).getD zeroN) ∧ Ext w w'

theorem tget_any (S : Nat → Prop) (w : World) (bt : Nat) (M : List (Key × Nd)) (N : Nat) (hT : TreeAt S w bt M N) (s : ByteArray) (hs : s.size ≤ maxLen) : Calls Tryz.prog 54 #[.pointer (some ⟨bt, 0, none⟩), .string s] w (GetOut M s w) := by
  obtain ⟨W1, hW1⟩ : ∃ W1, W1 = w.alloc (.cells zeroNd 44) := ⟨_, rfl⟩
  have hE1 : Ext w W1 := by rw [hW1]; exact Ext.alloc _ _
  have hz1 : W1.heap.size = w.heap.size + 1 := by rw [hW1]; simp
  have hr1 : W1.heap[w.heap.size]? = some (.cells zeroNd 44 (0, 0)) := by rw [hW1]; exact heap_alloc_new w _
  have hT1 := hT.ext hE1
  have hok := hT.ok
  have hbnd := hT.bound
  obtain ⟨bn, bk, K, hd, hNd, hKd⟩ := hT1
  have hx := TreeAt.box hd
  obtain ⟨v, hv, hq, hq2⟩ := hNd.look' s hs
  clear hq2
  have hfit := hok.fit s.data.toList
  generalize hn : (mget M s.data.toList).getD zeroN = n at *
  obtain ⟨da, dc, aa, ac, rfl, hD, hA⟩ := hv
  obtain ⟨W2, hW2⟩ : ∃ W2, W2 = W1.alloc (.cells (ndC n (.slice da n.data.length dc) (.slice aa n.acl.length ac)) 44) := ⟨_, rfl⟩
  have hE2 : Ext W1 W2 := by rw [hW2]; exact Ext.alloc _ _
  have hz2 : W2.heap.size = W1.heap.size + 1 := by rw [hW2]; simp
  have hr2 := (hE2.block w.heap.size (by omega)).trans hr1
  have hb2 : W2.heap[W1.heap.size]? = some (.cells (ndC n (.slice da n.data.length dc) (.slice aa n.acl.length ac)) 44 (0, 0)) := by rw [hW2]; exact heap_alloc_new W1 _
  have hD2 : Cells W2.heap.size W2 da (n.data.map u8v) := (hD.cells hd.bound).ext hE2
  have hA2 : Cells W2.heap.size W2 aa (acCs n.acl) := (hA.cells hd.bound).ext hE2
  have C := sclone_nd n da aa dc ac W2 hfit hD2 hA2
  have HSET := Lib.hid ((setRow_alloc W1 zeroNd (ndC n (.slice da n.data.length dc) (.slice aa n.acl.length ac)) 44).trans hW2.symm)
  have HNew := Lib.hid (heap_alloc_new W1 (.cells zeroNd 44))
  rw [hz1] at hb2
  have HB2 := Lib.hid hb2
  have HR2 := Lib.hid hr2
  have HW1 := Lib.hid hW1
  have HN := Lib.hid hn
  unfold ndC at HSET HB2 C hq
  unfold zeroNd at HSET HNew HW1 HR2
  unfold Box treeC at hx
  have C := Lib.hid C
  have hx' := hx
  have hq' := hq
  have HS' := HSET.out
  rw [HW1.out] at hx' hq' HS'
  rw [World.size_alloc] at HS'
  have HS2 := Lib.hid HS'
  have HNew' := HNew.out
  rw [HW1.out, World.size_alloc] at HNew'
  have HN2 := Lib.hid HNew'
  clear HSET HNew HNew' HS' hx hq
  clear hW1 hr1 hd hNd hKd hD hA hW2 hb2 hr2 hD2 hA2 hT hn hok hbnd hfit
  go_enter Tryz.func54, Tryz.ntmps54
  go_wp2_with (first | (refine wpList_store_row rfl 44 (.tmp 6) (.tmp 18) rfl (w.heap.size + 1) _ rfl rfl 44 _ HN2.out sizeNd rfl (cells_node n da aa _ _ dc ac) ?_; rw [HS2.out]) | (refine wpList_load_row rfl 44 (.tmp 6) rfl (w.heap.size + 1) rfl 44 _ (0, 0) _ HB2.out Tryz.underlying44 rfl sizeNd ?_))
  refine C.out.mono ?_
  rintro e w3 ⟨v3, rfl, hN3, hb3⟩
  have hE3 : Ext W2 w3 := hb3
  obtain ⟨va, vc, vb, vd, rfl, h1, h2⟩ := hN3
  have HR3 := Lib.hid ((hE3.block w.heap.size (by omega)).trans HR2.out)
  have hz3 := hE3.size
  have hEw : Ext w w3 := (hE1.trans hE2).trans hE3
  clear C HB2 HN2 HS2 hx' hq' hb3
  go_wp2_with (refine wpList_store_row rfl 44 (.tmp 4) (.tmp 21) rfl w.heap.size _ rfl rfl 44 _ HR3.out sizeNd rfl (cells_node n va vb _ _ vc vd) ?_)
  obtain ⟨cs, hcs⟩ : ∃ cs, cs = ndC n (.slice va n.data.length vc) (.slice vb n.acl.length vd) := ⟨_, rfl⟩
  have hR4 := setRow_heap w3 w.heap.size _ cs 44 (0, 0) HR3.out
  have hs4 : (w3.setRow w.heap.size cs).heap.size = w3.heap.size := by simp [World.setRow]
  have hb4 : Ext w (w3.setRow w.heap.size cs) := hEw.trans' ⟨rfl, rfl, rfl, by rw [hs4]; exact Nat.le_refl _, fun k hk => setRow_other _ _ _ _ (by omega)⟩
  have hk : ∀ (b o : Nat) u, (W2.heap.size ≤ b ∧ b < w3.heap.size) → w3.cell? ⟨b, o, none⟩ = some u → (w3.setRow w.heap.size cs).cell? ⟨b, o, none⟩ = some u := fun b o u hb hu =>
    (World.cell?_of_block (setRow_other _ _ _ _ (show b ≠ w.heap.size by have := hb.1; omega))).trans hu
  have c1 := h1.imp (S' := fun b => w.heap.size ≤ b ∧ b < (w3.setRow w.heap.size cs).heap.size) (fun b hb => ⟨by omega, by omega⟩) hk
  have c2 := h2.imp (S' := fun b => w.heap.size ≤ b ∧ b < (w3.setRow w.heap.size cs).heap.size) (fun b hb => ⟨by omega, by omega⟩) hk
  have hsz17 : (Tryz.prog.info? 44).map (·.size) = some cs.size := by rw [hcs]; exact sizeNd
  have hfin : GetOut M s w (.returned (.tuple #[.agg cs, .bool (mget M s.data.toList).isSome])) (w3.setRow w.heap.size cs) :=
    ⟨_, rfl, by rw [HN.out]; exact ⟨va, vc, vb, vd, by rw [hcs], c1, c2⟩, hb4⟩
  rw [hcs] at hfin hR4 hsz17
  refine bodyPost_ret (v := .tuple #[.agg (ndC n (.slice va n.data.length vc) (.slice vb n.acl.length vd)), .bool (mget M s.data.toList).isSome]) ?_ rfl hfin
  exact results_cell_row2 (p := 4) (q := 5) (ty := 44) rfl _ _ w.heap.size 44 _ (0, 0) _ _ rfl rfl hR4 Tryz.underlying44 rfl hsz17
end Go.Proofs.YthinpbdbhijbgaaGreatDoor
namespace Go.Proofs.YthinpbdbhijbgaaGreatDoor
open Go.ChangeShapes Go.WideShapes Go.ChangeAt Go.RowKit Go.Deep
set_option maxHeartbeats 2000000
set_option maxRecDepth 100000

theorem Tryz.bytes_node : Tryz.prog.bytesOf 44 = 168 := by kernel_rfl

instance : Inhabited Nd := ⟨zeroN⟩

section
variable {H : Type} {enc : TypeId × Value → H} {w : World} {fuel : Nat}

/-- A slice of nodes, opened. -/
theorem open_nodes_cap {v : Value} {x : DataW H × List MemPlace} (h : DataW.trod enc Tryz.prog w 0 (fun _ => true) true fuel 50 [v] = some x) (hz : Light 50 x.1) :
    ∃ (l : List Nd) (a : Option Addr) (cap : Nat), v = .slice a l.length cap ∧ l.length * 168 ≤ 140737488355328 ∧ (∀ n ∈ l, Fit n) ∧ NdsAt w.heap.size w a l ∧ l.length ≤ cap := by
  rcases open_slice Tryz.underlying50 h with ⟨hcs, rfl⟩ | ⟨a, len, cap, m, n, D, Pl, hcs, _, hl, hm, hmm, rfl, hx⟩
  · simp only [List.cons.injEq, and_true] at hcs
    subst hcs
    exact ⟨[], none, 0, rfl, by simp, by simp, fun i n h => (by simp at h), by simp⟩
  · simp only [List.cons.injEq, and_true] at hcs
    subst hcs
    simp only [if_true] at hmm
    subst hmm
    have hw := light_len Tryz.underlying50 hz
    rw [Tryz.bytes_node] at hw
    simp only [List.length_map, List.length_range] at hw
    obtain ⟨X, hX⟩ := choose_lt (n := len) (p := fun i (n : Nd) => ∃ v, NdV w.heap.size w v n ∧ (∀ r u, v.cells[r]? = some u → w.cell? ((a.add (i * 17)).add r) = some u) ∧ Fit n ∧ v.cells[0]? ≠ none) fun i hi => by
      obtain ⟨cs', h1, h2⟩ := hx i (by omega)
      obtain ⟨n, da, aa, dc, ac, rfl, hf, hD, hA⟩ := open_node h2 (light_elem Tryz.underlying50 hz (List.mem_map.2 ⟨i, List.mem_range.2 hi, rfl⟩))
      rw [Tryz.cells_node] at h1
      obtain ⟨_, _, h3⟩ := World.cells?_some h1
      refine ⟨n, _, ⟨da, dc, aa, ac, rfl, hD, hA⟩, fun r u hr => ?_, hf, fun h => by cases h⟩
      have hr' : (ndC n (.slice da n.data.length dc) (.slice aa n.acl.length ac))[r]? = some u := hr
      rw [h3 r (by have := (Array.getElem?_eq_some_iff.1 hr').1; simpa [ndC] using this)]
      simpa using hr'
    refine ⟨(List.range len).map X, some a, m, by simp, by simp; omega, fun x hx' => ?_, fun j n hj => ?_, by simp; omega⟩
    · obtain ⟨i, hi, rfl⟩ := List.mem_map.1 hx'
      obtain ⟨_, _, _, h, _⟩ := hX i (List.mem_range.1 hi)
      exact h
    · simp only [List.getElem?_map] at hj
      by_cases hi : j < len
      · rw [List.getElem?_range hi] at hj
        simp only [Option.map_some, Option.some.injEq] at hj
        subst hj
        obtain ⟨v, hv, hc, _, _⟩ := hX j hi
        obtain ⟨_, _, hc00, _, h0⟩ := hX 0 (by omega)
        obtain ⟨u0, hu0⟩ := Option.ne_none_iff_exists'.1 h0
        have hc0 := hc00 0 _ hu0
        have hsp := World.cell?_spot hc0
        have hlt := World.block_lt_of_cell? _ _ hc0
        obtain ⟨b, off, sp⟩ := a
        obtain rfl : sp = none := by simpa [Addr.add] using hsp
        refine ⟨b, off, v, rfl, by simpa [Addr.add] using hlt, hv, fun r u hr => ?_⟩
        have := hc r u hr
        rw [add_plain, add_plain] at this
        rw [← this]
      · rw [List.getElem?_eq_none (by simp; omega)] at hj
        simp at hj
theorem open_nodes {v : Value} {x : DataW H × List MemPlace} (h : DataW.trod enc Tryz.prog w 0 (fun _ => true) true fuel 50 [v] = some x) (hz : Light 50 x.1) :
    ∃ (l : List Nd) (a : Option Addr) (cap : Nat), v = .slice a l.length cap ∧ l.length * 168 ≤ 140737488355328 ∧ (∀ n ∈ l, Fit n) ∧ NdsAt w.heap.size w a l := by
  obtain ⟨l, a, c, h1, h2, h3, h4, _⟩ := open_nodes_cap h hz
  exact ⟨l, a, c, h1, h2, h3, h4⟩
end
end Go.Proofs.YthinpbdbhijbgaaGreatDoor
namespace Go.Proofs.YthinpbdbhijbgaaGreatDoor
open Go.RowKit
set_option maxHeartbeats 2000000
set_option maxRecDepth 100000

end Go.Proofs.YthinpbdbhijbgaaGreatDoor
namespace Go.Proofs.YthinpbdbhijbgaaGreatDoor
open Go.RowKit
set_option maxHeartbeats 2000000
set_option maxRecDepth 100000

theorem NodesAt.del {S : Nat → Prop} {w w' : World} {bn : Nat} {M : List (Key × Nd)} {N : Nat} (h : NodesAt S w bn M N) {k : Key} {m : List (Key × Value)} (hr : Rel2 (fun n v => NdS S w v n) M m)
    (hs : SMap Tryz.prog 9 w' bn (mdel m k)) (hT : w.mapTurned w' bn) : NodesAt S w' bn (mdel M k) N := by
  have hc : ∀ (b o : Nat) u, S b → w.cell? ⟨b, o, none⟩ = some u → w'.cell? ⟨b, o, none⟩ = some u := fun b o u _ hu => (Mod.turned (S := fun _ => True) hT trivial).cell hu
  exact ⟨⟨_, hs, (hr.mdel k).imp fun _ _ _ hx => hx.imp (fun _ h => h) hc⟩, h.ok.del k, Nat.le_trans (List.length_filter_le _ _) h.len⟩

theorem apart_key {K : List (Key × Nat)} (h : K.Pairwise fun x y => x.2 ≠ y.2) {k : Key} {b : Nat} (hm : (k, b) ∈ K) {x : Key × Nat} (hx : x ∈ K) (e : x.2 = b) : x.1 = k := by
  obtain ⟨i, hi, ei⟩ := List.getElem_of_mem hx
  obtain ⟨j, hj, ej⟩ := List.getElem_of_mem hm
  have hp := List.pairwise_iff_getElem.1 h
  have : i = j := by
    rcases Nat.lt_trichotomy i j with hlt | he | hlt
    · exact absurd (by rw [ei, ej]; exact e) (hp i j hi hj hlt)
    · exact he
    · exact absurd (by rw [ei, ej]; exact e.symm) (hp j i hj hi hlt)
  subst this
  rw [ei] at ej
  rw [ej]

theorem kidsV_mem {K : List (Key × Nat)} (h : MSorted (kidsV K)) {x : Key × Nat} (hx : x ∈ K) : mget K x.1 = some x.2 := by
  have := mget_of_mem h (k := x.1) (v := .map (some x.2)) (List.mem_map.2 ⟨x, hx, rfl⟩)
  rw [kidsV_get] at this
  cases hg : mget K x.1 with
  | none => rw [hg] at this; cases this
  | some b => rw [hg] at this; simpa using this

/-- A node without children is struck: its own map goes, its name goes out of its parent's. -/
theorem KidsAt.del {S : Nat → Prop} {w w1 w2 w3 : World} {bn bk : Nat} {K : List (Key × Nat)} {M : List (Key × Nd)} {N : Nat} (h : KidsAt S w bn bk K M N) (hM : MOk M) {n : Nd} (hg : mget M (keyN n) = some n) (hroot : n.path.size ≠ 1) (hno : kidsOf M n.path = [])
    {b : Nat} (hb : mget K (parentB n.path).data.toList = some b) (hne : bn ≠ bk)
    (hT1 : w.mapTurned w1 bn) (hT2 : w1.mapTurned w2 bk) (hs2 : SMap Tryz.prog 9 w2 bk (mdel (kidsV K) (keyN n)))
    (hT3 : w2.mapTurned w3 b) (hs3 : SMap Tryz.prog 9 w3 b (mdel (kidsOf M (parentB n.path)) (nameB n.path).data.toList)) :
    KidsAt S w3 bn bk (mdel K (keyN n)) (mdel M (keyN n)) N := by
  have hr := (hM.at hg).2
  have hmem := mget_some_mem hb
  have hE := h.each _ hmem
  have hc : childOf (parentB n.path) n = true := childOf_iff.2 ⟨hroot, rfl⟩
  have hoth : ∀ p, p ≠ parentB n.path → kidsOf (mdel M (keyN n)) p = kidsOf M p := fun p hp => by
    rw [kids_del hM hg p, if_neg (fun hc => hp (childOf_iff.1 hc).2.symm)]
  have hsort := SMap.sorted (Maps.string_keyed strT) h.map
  refine ⟨?_, Nat.le_trans (List.length_filter_le _ _) h.len, fun x hx => ?_, h.apart.filter _, fun p hp => ?_⟩
  · unfold kidsV
    rw [mdel_map (fun b => Value.map (some b))]
    exact hs2.keep (turned_other hT3 hE.2.2.1.symm)
  · obtain ⟨hx, hxk⟩ := mem_mdel.1 hx
    obtain ⟨h1, h2, h3, h4⟩ := h.each x hx
    refine ⟨h1, h2, h3, ?_⟩
    by_cases e : x.2 = b
    · have hk := apart_key h.apart hmem hx e
      rw [hk, key_bytes, kids_del hM hg, if_pos hc, e]
      exact hs3
    · rw [hoth _ (fun e1 => e (by
        have : x.1 = (parentB n.path).data.toList := by rw [← e1, key_back]
        have h5 := kidsV_mem hsort hx
        rw [this, hb] at h5
        exact (Option.some.inj h5).symm))]
      exact h4.keep ((turned_other hT3 e).trans ((turned_other hT2 h3).trans (turned_other hT1 h2)))
  · by_cases e : p = n.path
    · rw [e, kids_del hM hg]
      split
      · rw [hno]; rfl
      · exact hno
    · by_cases e2 : p = parentB n.path
      · exfalso
        refine mget_none hp ((parentB n.path).data.toList, b) (mem_mdel.2 ⟨hmem, fun e3 => ?_⟩) (by rw [e2])
        exact e (e2.trans (ba_ext e3))
      · rw [hoth p e2]
        refine h.rest p (mget_none_of fun x hx e3 => ?_)
        exact mget_none hp x (mem_mdel.2 ⟨hx, fun e4 => e (ba_ext (e3.symm.trans e4))⟩) e3

end Go.Proofs.YthinpbdbhijbgaaGreatDoor
namespace Go.Proofs.YthinpbdbhijbgaaGreatDoor
open Go.RowKit
set_option maxHeartbeats 1000000

theorem before_asymm : ∀ {a b : List UInt8}, bytesBefore a b = true → bytesBefore b a = true → False
  | [], [], h, _ => by simp [bytesBefore] at h
  | [], _ :: _, _, h => by simp [bytesBefore] at h
  | _ :: _, [], h, _ => by simp [bytesBefore] at h
  | x :: a, y :: b, h, k => by
    simp only [bytesBefore, Bool.or_eq_true, Bool.and_eq_true, decide_eq_true_eq, beq_iff_eq] at h k
    rcases h with h | ⟨rfl, h⟩
    · rcases k with k | ⟨rfl, k⟩
      · exact absurd h (UInt8.lt_asymm k)
      · exact absurd h (UInt8.lt_irrefl _)
    · rcases k with k | ⟨_, k⟩
      · exact absurd k (UInt8.lt_irrefl _)
      · exact before_asymm h k

theorem MOk.take {M : List (Key × Nd)} (h : MOk M) (m : Nat) : MOk (M.take m) :=
  ⟨List.Pairwise.sublist (List.take_sublist m M) h.sorted, fun x hx => h.key x (List.mem_of_mem_take hx), fun x hx => h.right x (List.mem_of_mem_take hx)⟩

end Go.Proofs.YthinpbdbhijbgaaGreatDoor
namespace Go.Proofs.YthinpbdbhijbgaaGreatDoor
open Go.RowKit
set_option maxHeartbeats 1000000

/-- Two texts, byte by byte. -/
def ordL : List UInt8 → List UInt8 → Int
  | [], [] => 0
  | [], _ :: _ => -1
  | _ :: _, [] => 1
  | x :: a, y :: b => if x.toNat < y.toNat then -1 else if y.toNat < x.toNat then 1 else ordL a b
theorem ordL_eq : ∀ a b : List UInt8, ordL a b = if a = b then 0 else if bytesBefore a b = true then -1 else 1
  | [], [] => by simp [ordL]
  | [], y :: b => by simp [ordL, bytesBefore]
  | x :: a, [] => by simp [ordL, bytesBefore]
  | x :: a, y :: b => by
    simp only [ordL, ordL_eq a b, bytesBefore, Bool.or_eq_true, decide_eq_true_eq, Bool.and_eq_true, beq_iff_eq, List.cons.injEq, UInt8.lt_iff_toNat_lt]
    by_cases h1 : x.toNat < y.toNat
    · have hne : x ≠ y := fun e => by rw [e] at h1; omega
      rw [if_pos h1, if_neg (fun h => hne h.1), if_pos (.inl h1)]
    · by_cases h2 : y.toNat < x.toNat
      · have hne : x ≠ y := fun e => by rw [e] at h2; omega
        rw [if_neg h1, if_pos h2, if_neg (fun h => hne h.1), if_neg (fun h => h.elim h1 fun h => hne h.1)]
      · have he : x = y := UInt8.toNat_inj.1 (by omega)
        subst he
        rw [if_neg h1, if_neg h2]
        by_cases h3 : a = b
        · rw [if_pos h3, if_pos ⟨rfl, h3⟩]
        · have e1 : ¬ (x = x ∧ a = b) := fun h => h3 h.2
          rw [if_neg h3, if_neg e1]
          by_cases h4 : bytesBefore a b = true
          · rw [if_pos h4, if_pos (.inr ⟨rfl, h4⟩)]
          · have e2 : ¬ (x.toNat < x.toNat ∨ x = x ∧ bytesBefore a b = true) := fun h => h.elim h1 fun h => h4 h.2
            rw [if_neg h4, if_neg e2]

/-- The nodes alone. -/
def nds (M : List (Key × Nd)) : List Nd := M.map (·.2)
theorem nds_length (M : List (Key × Nd)) : (nds M).length = M.length := List.length_map _
end Go.Proofs.YthinpbdbhijbgaaGreatDoor
namespace Go.Proofs.YthinpbdbhijbgaaGreatDoor
open Go.RowKit
set_option maxHeartbeats 400000

theorem fields_of {t : TypeId} {fs : Array Field} (h : Tryz.prog.underlying t = some (.struct fs)) : Tryz.prog.fieldsOf t = fs := by
  unfold Program.fieldsOf; rw [h]
theorem eq_agg (w : World) (d : Nat) (t : TypeId) (fs : Array Field) (xs ys : Array Value) (h : Tryz.prog.underlying t = some (.struct fs)) (hp : Tryz.prog.stoodInHeld t = false) :
    (Op.equalIn (d + 1) t (.agg xs) (.agg ys)).run Tryz.prog w = (Op.eqFields d xs ys fs.toList).run Tryz.prog w := by
  rw [run_equalIn_agg w d t xs ys (by rw [fields_of h]; exact h) hp, fields_of h]

def eqAc (x y : Ac) : Bool := x.perms == y.perms && (x.scheme.toList == y.scheme.toList && x.id.toList == y.id.toList)
def acV (x : Ac) : Value := .agg #[.int .i32 x.perms, .string x.scheme, .string x.id]
theorem eq_ac (w : World) (d : Nat) (x y : Ac) : (Op.equalIn (d + 3) 129 (acV x) (acV y)).run Tryz.prog w = .ok (eqAc x y) w := by
  unfold acV
  rw [eq_agg w (d + 2) _ _ _ _ Tryz.underlying129 (by kernel_rfl)]
  simp [Op.eqFields, part, go_sem]
  unfold eqAc
  repeat' split
  all_goals simp_all

theorem guard_ac : Tryz.prog.eqGuardType Tryz.prog.depth 129 = false := by kernel_rfl
theorem guard_q : Tryz.prog.eqGuardType Tryz.prog.depth 23 = false := by kernel_rfl
theorem neq_ac (w : World) (x y : Ac) : (binOp .neq 129 (.agg #[.int .i32 x.perms, .string x.scheme, .string x.id]) (.agg #[.int .i32 y.perms, .string y.scheme, .string y.id])).run Tryz.prog w = .ok (.bool (!eqAc x y)) w := by
  rw [run_neq_struct]
  have := eq_ac w 9997 x y
  unfold acV at this
  rw [this]
  rfl
def eqQ (h : Bool) (a b : Int) (h' : Bool) (a' b' : Int) : Bool := h == h' && (a == a' && b == b')
theorem eq_q (w : World) (d : Nat) (h : Bool) (a b : Int) (h' : Bool) (a' b' : Int) : (Op.equalIn (d + 2) 23 (.agg #[.bool h, .int .i64 a, .int .i64 b]) (.agg #[.bool h', .int .i64 a', .int .i64 b'])).run Tryz.prog w = .ok (eqQ h a b h' a' b') w := by
  rw [eq_agg w (d + 1) _ _ _ _ Tryz.underlying23 (by kernel_rfl)]
  simp [Op.eqFields, part, go_sem]
  unfold eqQ
  repeat' split
  all_goals simp_all
theorem neq_q (w : World) (h : Bool) (a b : Int) (h' : Bool) (a' b' : Int) : (binOp .neq 23 (.agg #[.bool h, .int .i64 a, .int .i64 b]) (.agg #[.bool h', .int .i64 a', .int .i64 b'])).run Tryz.prog w = .ok (.bool (!eqQ h a b h' a' b')) w := by
  rw [run_neq_struct, eq_q w 9998]; rfl
theorem eql_q (w : World) (h : Bool) (a b : Int) (h' : Bool) (a' b' : Int) : (binOp .eql 23 (.agg #[.bool h, .int .i64 a, .int .i64 b]) (.agg #[.bool h', .int .i64 a', .int .i64 b'])).run Tryz.prog w = .ok (.bool (eqQ h a b h' a' b')) w := by
  rw [run_eql_struct, eq_q w 9998]; rfl
end Go.Proofs.YthinpbdbhijbgaaGreatDoor
namespace Go.Proofs.YthinpbdbhijbgaaGreatDoor
open Go.RowKit
set_option maxHeartbeats 2000000
set_option maxRecDepth 100000

/-- Are two lists alike. -/
def eqAcs : List Ac → List Ac → Bool
  | [], [] => true
  | x :: xs, y :: ys => eqAc x y && eqAcs xs ys
  | _, _ => false
theorem eqAcs_len : ∀ xs ys, xs.length ≠ ys.length → eqAcs xs ys = false
  | [], [], h => absurd rfl h
  | [], _ :: _, _ => rfl
  | _ :: _, [], _ => rfl
  | x :: xs, y :: ys, h => by simp only [eqAcs]; rw [eqAcs_len xs ys (by simpa using h)]; simp
theorem eqAcs_drop (xs ys : List Ac) (k : Nat) (h : k < xs.length) (h' : k < ys.length) : eqAcs (xs.drop k) (ys.drop k) = (eqAc xs[k] ys[k] && eqAcs (xs.drop (k + 1)) (ys.drop (k + 1))) := by
  rw [List.drop_eq_getElem_cons h, List.drop_eq_getElem_cons h']; rfl

theorem racls_any (a b : Option Addr) (c d : Nat) (xs ys : List Ac) (w : World) (hx : Cells w.heap.size w a (acCs xs)) (hy : Cells w.heap.size w b (acCs ys)) (hm : xs.length ≤ 9223372036854775800) (hm' : ys.length ≤ 9223372036854775800) :
    Calls Tryz.prog 130 #[.slice a xs.length c, .slice b ys.length d] w fun e w' => e = .returned (.bool (eqAcs xs ys)) ∧ Below w.heap.size w w' := by
  by_cases hl : xs.length ≠ ys.length
  · have H1 := Lib.hid (eqAcs_len xs ys hl)
    have hlb : ((xs.length : Int) != ys.length) = true := by simp; omega
    clear hl hx hy
    go_enter Tryz.func130, Tryz.ntmps130
    go_wp2
    go_ret
    exact ⟨by rw [H1.out]; rfl, Below.refl _ _⟩
  have hl : xs.length = ys.length := by omega
  have HL := Lib.hid hl
  have hg := guard_ac
  have hnq := neq_ac
  have hlb : ((xs.length : Int) != ys.length) = false := by simp [hl]
  clear hl
  go_enter Tryz.func130, Tryz.ntmps130
  go_wp2
  go_loopw [5] (fun i wr => ∃ (k n : Nat), k ≤ xs.length ∧ i = .int .i64 k ∧ wr = w.drewN n ∧ Hid (eqAcs xs ys = eqAcs (xs.drop k) (ys.drop k))) (fun i _ => xs.length - (intOf i).toNat)
  case atStart => exact ⟨0, 0, Nat.zero_le _, rfl, rfl, rfl⟩
  case round =>
    obtain ⟨k, n, hk, rfl, rfl, HQ⟩ := hrel
    by_cases hlt : k < xs.length
    · have hlt' : k < ys.length := by have := HL.out; omega
      obtain ⟨b1, o1, rfl, hb1, c0, c1, c2⟩ := acCells hx k hlt
      obtain ⟨b2, o2, rfl, hb2, d0, d1, d2⟩ := acCells hy k hlt'
      have hk1 : (k : Int) < xs.length := by omega
      have hk2 : (k : Int) < ys.length := by omega
      have hk0 : (0 : Int) ≤ k := by omega
      have HD := Lib.hid (eqAcs_drop xs ys k hlt hlt')
      cases he : eqAc xs[k] ys[k]
      · have H1 : Hid (eqAcs xs ys = false) := by unfold Hid; rw [HQ.out, HD.out, he]; rfl
        clear hx hy
        go_wp2
        go_quiet (fail)
        go_wp2
        go_ret
        exact ⟨by rw [H1.out]; rfl, below_drewN (below_drewN (Below.refl _ _) _) _⟩
      · have H1 : Hid (eqAcs xs ys = eqAcs (xs.drop (k + 1)) (ys.drop (k + 1))) := by unfold Hid; rw [HQ.out, HD.out, he]; rfl
        clear hx hy
        go_wp2
        go_quiet (fail)
        go_wp2
        go_roundw
        case rel => exact ⟨k + 1, _, by omega, by go_num, rfl, H1⟩
        case measure => simp [intOf]; omega
    · obtain rfl : k = xs.length := by omega
      have H1 : Hid (eqAcs xs ys = true) := by
        unfold Hid; rw [HQ.out, List.drop_length, HL.out, List.drop_length]; rfl
      clear hx hy
      go_wp2
      go_ret
      exact ⟨by rw [H1.out]; rfl, below_drewN (Below.refl _ _) _⟩

theorem eqAc_self (x : Ac) : eqAc x x = true := by simp [eqAc]
theorem eqAcs_self : ∀ l : List Ac, eqAcs l l = true
  | [] => rfl
  | x :: l => by simp only [eqAcs]; rw [eqAc_self, eqAcs_self l]; rfl

/-- A node and its like are alike. -/
theorem rsame_self (n : Nd) (da aa db ab : Option Addr) (dc ac dd ad : Nat) (w : World) (hf : Fit n) (hD : Cells w.heap.size w da (n.data.map u8v)) (hA : Cells w.heap.size w aa (acCs n.acl)) (hD' : Cells w.heap.size w db (n.data.map u8v)) (hA' : Cells w.heap.size w ab (acCs n.acl)) :
    Calls Tryz.prog 55 #[.agg (ndC n (.slice da n.data.length dc) (.slice aa n.acl.length ac)), .agg (ndC n (.slice db n.data.length dd) (.slice ab n.acl.length ad))] w fun e w' => e = .returned (.bool true) ∧ Below w.heap.size w w' := by
  have hfa := hf.acl
  obtain ⟨W2, hW2⟩ : ∃ W2, W2 = (w.alloc (.cells (ndC n (.slice da n.data.length dc) (.slice aa n.acl.length ac)) 44)).alloc (.cells (ndC n (.slice db n.data.length dd) (.slice ab n.acl.length ad)) 44) := ⟨_, rfl⟩
  have hs2 : W2.heap.size = w.heap.size + 1 + 1 := by rw [hW2]; simp
  have hb2 : Below w.heap.size w W2 := by rw [hW2]; exact ((Below.refl _ _).alloc (Nat.le_refl _) _).alloc (by simp) _
  have hx : Box W2 w.heap.size (ndC n (.slice da n.data.length dc) (.slice aa n.acl.length ac)) := fun j => by rw [hW2]; exact cell_of_row _ _ _ _ _ _ (heap_alloc2_old w _ _)
  have hy : Box W2 (w.heap.size + 1) (ndC n (.slice db n.data.length dd) (.slice ab n.acl.length ad)) := fun j => by rw [hW2]; exact cell_of_row _ _ _ _ _ _ (heap_alloc2_new w _ _)
  have hv1 := conv_string dc (hD.below hb2)
  have hv2 := conv_string dd (hD'.below hb2)
  have CA := racls_any aa ab ac ad n.acl n.acl W2 ((hA.below hb2).mono (by omega)) ((hA'.below hb2).mono (by omega)) (by omega) (by omega)
  rw [eqAcs_self] at CA
  have hgq := guard_q
  have hnq := neq_q
  have hqq : ∀ h a b, eqQ h a b h a b = true := fun h a b => by simp [eqQ]
  rw [hW2] at hv1 hv2 CA
  have CA := Lib.hid CA
  have HW2 := Lib.hid hW2
  unfold ndC at hx hy hv1 hv2 CA HW2 ⊢
  clear hW2 hD hA hD' hA'
  go_enter Tryz.func55, Tryz.ntmps55
  go_wp2_with fail
  refine CA.out.mono ?_
  rintro e w3 ⟨rfl, hb3⟩
  rw [← HW2.out] at hb3
  have hx3 := hx.below hb3 (by omega)
  have hy3 := hy.below hb3 (by omega)
  have hbb := hb2.trans (hb3.mono (by omega))
  unfold Box at hx3 hy3
  clear CA hx hy hv1 hv2 hb3 hb2 HW2
  go_wp2
  go_ret
  exact ⟨rfl, hbb⟩
end Go.Proofs.YthinpbdbhijbgaaGreatDoor
namespace Go.Proofs.YthinpbdbhijbgaaGreatDoor
open Go.RowKit
set_option maxHeartbeats 4000000
set_option maxRecDepth 100000

/-- Are two nodes one? -/
noncomputable def sameN (x y : Nd) : Bool := @decide (x = y) (Classical.propDecidable _)
theorem sameN_self (x : Nd) : sameN x x = true := by simp [sameN]
theorem sameN_not {x y : Nd} (h : x ≠ y) : sameN x y = false := by simp [sameN, h]
theorem ba_ext0 {a b : ByteArray} (h : a.data.toList = b.data.toList) : a = b := ByteArray.ext (Array.toList_inj.1 h)
theorem eqAc_eq {x y : Ac} (h : eqAc x y = true) : x = y := by
  unfold eqAc at h
  simp only [Bool.and_eq_true, beq_iff_eq, ByteArray.toList_eq] at h
  obtain ⟨h1, h2, h3⟩ := h
  cases x; cases y
  simp only at h1 h2 h3
  rw [h1, ba_ext0 h2, ba_ext0 h3]
theorem eqAcs_eq : ∀ {xs ys : List Ac}, eqAcs xs ys = true → xs = ys
  | [], [], _ => rfl
  | [], _ :: _, h => by simp [eqAcs] at h
  | _ :: _, [], h => by simp [eqAcs] at h
  | x :: xs, y :: ys, h => by
    simp only [eqAcs, Bool.and_eq_true] at h
    rw [eqAc_eq h.1, eqAcs_eq h.2]

theorem rsame_any (x y : Nd) (da aa db ab : Option Addr) (dc ac dd ad : Nat) (w : World) (hf : Fit x) (hf' : Fit y) (hD : Cells w.heap.size w da (x.data.map u8v)) (hA : Cells w.heap.size w aa (acCs x.acl)) (hD' : Cells w.heap.size w db (y.data.map u8v)) (hA' : Cells w.heap.size w ab (acCs y.acl)) :
    Calls Tryz.prog 55 #[.agg (ndC x (.slice da x.data.length dc) (.slice aa x.acl.length ac)), .agg (ndC y (.slice db y.data.length dd) (.slice ab y.acl.length ad))] w fun e w' => e = .returned (.bool (sameN x y)) ∧ Below w.heap.size w w' := by
  by_cases hxy : x = y
  · subst hxy
    rw [sameN_self]
    exact rsame_self x da aa db ab dc ac dd ad w hf hD hA hD' hA'
  rw [sameN_not hxy]
  have hfa := hf.acl
  have hfb := hf'.acl
  obtain ⟨W2, hW2⟩ : ∃ W2, W2 = (w.alloc (.cells (ndC x (.slice da x.data.length dc) (.slice aa x.acl.length ac)) 44)).alloc (.cells (ndC y (.slice db y.data.length dd) (.slice ab y.acl.length ad)) 44) := ⟨_, rfl⟩
  have hs2 : W2.heap.size = w.heap.size + 1 + 1 := by rw [hW2]; simp
  have hb2 : Below w.heap.size w W2 := by rw [hW2]; exact ((Below.refl _ _).alloc (Nat.le_refl _) _).alloc (by simp) _
  have hx : Box W2 w.heap.size (ndC x (.slice da x.data.length dc) (.slice aa x.acl.length ac)) := fun j => by rw [hW2]; exact cell_of_row _ _ _ _ _ _ (heap_alloc2_old w _ _)
  have hy : Box W2 (w.heap.size + 1) (ndC y (.slice db y.data.length dd) (.slice ab y.acl.length ad)) := fun j => by rw [hW2]; exact cell_of_row _ _ _ _ _ _ (heap_alloc2_new w _ _)
  have hv1 := conv_string dc (hD.below hb2)
  have hv2 := conv_string dd (hD'.below hb2)
  have CA := racls_any aa ab ac ad x.acl y.acl W2 ((hA.below hb2).mono (by omega)) ((hA'.below hb2).mono (by omega)) (by omega) (by omega)
  have hgq := guard_q
  have hnq := neq_q
  rw [hW2] at hv1 hv2 CA
  clear hD hA hD' hA' hf hf'
  obtain ⟨x_path, x_data, x_acl, x_owner, x_czxid, x_mzxid, x_pzxid, x_azxid, x_qzxid, x_ctime, x_mtime, x_version, x_creates, x_aversion, x_has, x_count, x_bytes⟩ := x
  obtain ⟨y_path, y_data, y_acl, y_owner, y_czxid, y_mzxid, y_pzxid, y_azxid, y_qzxid, y_ctime, y_mtime, y_version, y_creates, y_aversion, y_has, y_count, y_bytes⟩ := y
  simp only at hx hy hv1 hv2 CA hW2 hfa hfb
  by_cases q : x_data = y_data
  rotate_left
  · have f1 : (x_data != y_data) = true := by simpa using q
    have f2 : (x_data == y_data) = false := by simpa using q
    have hbw := hb2
    rw [hW2] at hbw
    unfold ndC at hbw
    clear CA hxy
    have HW2 := Lib.hid hW2
    unfold Box ndC at hx hy
    unfold ndC at hv1 hv2 HW2 ⊢
    clear hW2
    rw [HW2.out] at hx hy
    go_enter Tryz.func55, Tryz.ntmps55
    go_wp2
    go_ret
    exact ⟨rfl, hbw⟩
  subst q
  by_cases q : x_acl = y_acl
  rotate_left
  · rw [show eqAcs x_acl y_acl = false from Bool.eq_false_iff.2 fun h => q (eqAcs_eq h)] at CA
    have CA := Lib.hid CA
    clear hxy q
    have HW2 := Lib.hid hW2
    unfold ndC at hx hy hv1 hv2 CA HW2 ⊢
    clear hW2
    go_enter Tryz.func55, Tryz.ntmps55
    go_wp2_with fail
    refine CA.out.mono ?_
    rintro e w3 ⟨rfl, hb3⟩
    rw [← HW2.out] at hb3
    have hx3 := hx.below hb3 (by omega)
    have hy3 := hy.below hb3 (by omega)
    have hbb := hb2.trans (hb3.mono (by omega))
    unfold Box at hx3 hy3
    clear CA hx hy hv1 hv2 hb3 hb2 HW2
    go_wp2
    go_ret
    exact ⟨rfl, hbb⟩
  subst q
  by_cases q : x_path = y_path
  rotate_left
  · have f1 : (x_path.toList != y_path.toList) = true := by simp only [ByteArray.toList_eq, bne_iff_ne, ne_eq]; exact fun h => q (ba_ext0 h)
    have f2 : (x_path.toList == y_path.toList) = false := by simp only [ByteArray.toList_eq, beq_eq_false_iff_ne, ne_eq]; exact fun h => q (ba_ext0 h)
    rw [eqAcs_self] at CA
    have hqq : ∀ h a b, eqQ h a b h a b = true := fun h a b => by simp [eqQ]
    have CA := Lib.hid CA
    clear hxy q
    have HW2 := Lib.hid hW2
    unfold ndC at hx hy hv1 hv2 CA HW2 ⊢
    clear hW2
    go_enter Tryz.func55, Tryz.ntmps55
    go_wp2_with fail
    refine CA.out.mono ?_
    rintro e w3 ⟨rfl, hb3⟩
    rw [← HW2.out] at hb3
    have hx3 := hx.below hb3 (by omega)
    have hy3 := hy.below hb3 (by omega)
    have hbb := hb2.trans (hb3.mono (by omega))
    unfold Box at hx3 hy3
    clear CA hx hy hv1 hv2 hb3 hb2 HW2
    go_wp2
    go_ret
    exact ⟨rfl, hbb⟩
  subst q
  by_cases q : x_owner = y_owner
  rotate_left
  · have f1 : (x_owner != y_owner) = true := by simpa using q
    have f2 : (x_owner == y_owner) = false := by simpa using q
    rw [eqAcs_self] at CA
    have hqq : ∀ h a b, eqQ h a b h a b = true := fun h a b => by simp [eqQ]
    have CA := Lib.hid CA
    clear hxy q
    have HW2 := Lib.hid hW2
    unfold ndC at hx hy hv1 hv2 CA HW2 ⊢
    clear hW2
    go_enter Tryz.func55, Tryz.ntmps55
    go_wp2_with fail
    refine CA.out.mono ?_
    rintro e w3 ⟨rfl, hb3⟩
    rw [← HW2.out] at hb3
    have hx3 := hx.below hb3 (by omega)
    have hy3 := hy.below hb3 (by omega)
    have hbb := hb2.trans (hb3.mono (by omega))
    unfold Box at hx3 hy3
    clear CA hx hy hv1 hv2 hb3 hb2 HW2
    go_wp2
    go_ret
    exact ⟨rfl, hbb⟩
  subst q
  by_cases q : x_has = y_has ∧ x_count = y_count ∧ x_bytes = y_bytes
  rotate_left
  · have hqq : eqQ x_has x_count x_bytes y_has y_count y_bytes = false := Bool.eq_false_iff.2 fun h => q (by unfold eqQ at h; simpa using h)
    rw [eqAcs_self] at CA
    have CA := Lib.hid CA
    clear hxy q
    have HW2 := Lib.hid hW2
    unfold ndC at hx hy hv1 hv2 CA HW2 ⊢
    clear hW2
    go_enter Tryz.func55, Tryz.ntmps55
    go_wp2_with fail
    refine CA.out.mono ?_
    rintro e w3 ⟨rfl, hb3⟩
    rw [← HW2.out] at hb3
    have hx3 := hx.below hb3 (by omega)
    have hy3 := hy.below hb3 (by omega)
    have hbb := hb2.trans (hb3.mono (by omega))
    unfold Box at hx3 hy3
    clear CA hx hy hv1 hv2 hb3 hb2 HW2
    go_wp2
    go_ret
    exact ⟨rfl, hbb⟩
  obtain ⟨rfl, rfl, rfl⟩ := q
  by_cases q : x_czxid = y_czxid
  rotate_left
  · have f1 : (x_czxid != y_czxid) = true := by simpa using q
    have f2 : (x_czxid == y_czxid) = false := by simpa using q
    rw [eqAcs_self] at CA
    have hqq : ∀ h a b, eqQ h a b h a b = true := fun h a b => by simp [eqQ]
    have CA := Lib.hid CA
    clear hxy q
    have HW2 := Lib.hid hW2
    unfold ndC at hx hy hv1 hv2 CA HW2 ⊢
    clear hW2
    go_enter Tryz.func55, Tryz.ntmps55
    go_wp2_with fail
    refine CA.out.mono ?_
    rintro e w3 ⟨rfl, hb3⟩
    rw [← HW2.out] at hb3
    have hx3 := hx.below hb3 (by omega)
    have hy3 := hy.below hb3 (by omega)
    have hbb := hb2.trans (hb3.mono (by omega))
    unfold Box at hx3 hy3
    clear CA hx hy hv1 hv2 hb3 hb2 HW2
    go_wp2
    go_ret
    exact ⟨rfl, hbb⟩
  subst q
  by_cases q : x_mzxid = y_mzxid
  rotate_left
  · have f1 : (x_mzxid != y_mzxid) = true := by simpa using q
    have f2 : (x_mzxid == y_mzxid) = false := by simpa using q
    rw [eqAcs_self] at CA
    have hqq : ∀ h a b, eqQ h a b h a b = true := fun h a b => by simp [eqQ]
    have CA := Lib.hid CA
    clear hxy q
    have HW2 := Lib.hid hW2
    unfold ndC at hx hy hv1 hv2 CA HW2 ⊢
    clear hW2
    go_enter Tryz.func55, Tryz.ntmps55
    go_wp2_with fail
    refine CA.out.mono ?_
    rintro e w3 ⟨rfl, hb3⟩
    rw [← HW2.out] at hb3
    have hx3 := hx.below hb3 (by omega)
    have hy3 := hy.below hb3 (by omega)
    have hbb := hb2.trans (hb3.mono (by omega))
    unfold Box at hx3 hy3
    clear CA hx hy hv1 hv2 hb3 hb2 HW2
    go_wp2
    go_ret
    exact ⟨rfl, hbb⟩
  subst q
  by_cases q : x_pzxid = y_pzxid
  rotate_left
  · have f1 : (x_pzxid != y_pzxid) = true := by simpa using q
    have f2 : (x_pzxid == y_pzxid) = false := by simpa using q
    rw [eqAcs_self] at CA
    have hqq : ∀ h a b, eqQ h a b h a b = true := fun h a b => by simp [eqQ]
    have CA := Lib.hid CA
    clear hxy q
    have HW2 := Lib.hid hW2
    unfold ndC at hx hy hv1 hv2 CA HW2 ⊢
    clear hW2
    go_enter Tryz.func55, Tryz.ntmps55
    go_wp2_with fail
    refine CA.out.mono ?_
    rintro e w3 ⟨rfl, hb3⟩
    rw [← HW2.out] at hb3
    have hx3 := hx.below hb3 (by omega)
    have hy3 := hy.below hb3 (by omega)
    have hbb := hb2.trans (hb3.mono (by omega))
    unfold Box at hx3 hy3
    clear CA hx hy hv1 hv2 hb3 hb2 HW2
    go_wp2
    go_ret
    exact ⟨rfl, hbb⟩
  subst q
  by_cases q : x_azxid = y_azxid
  rotate_left
  · have f1 : (x_azxid != y_azxid) = true := by simpa using q
    have f2 : (x_azxid == y_azxid) = false := by simpa using q
    rw [eqAcs_self] at CA
    have hqq : ∀ h a b, eqQ h a b h a b = true := fun h a b => by simp [eqQ]
    have CA := Lib.hid CA
    clear hxy q
    have HW2 := Lib.hid hW2
    unfold ndC at hx hy hv1 hv2 CA HW2 ⊢
    clear hW2
    go_enter Tryz.func55, Tryz.ntmps55
    go_wp2_with fail
    refine CA.out.mono ?_
    rintro e w3 ⟨rfl, hb3⟩
    rw [← HW2.out] at hb3
    have hx3 := hx.below hb3 (by omega)
    have hy3 := hy.below hb3 (by omega)
    have hbb := hb2.trans (hb3.mono (by omega))
    unfold Box at hx3 hy3
    clear CA hx hy hv1 hv2 hb3 hb2 HW2
    go_wp2
    go_ret
    exact ⟨rfl, hbb⟩
  subst q
  by_cases q : x_qzxid = y_qzxid
  rotate_left
  · have f1 : (x_qzxid != y_qzxid) = true := by simpa using q
    have f2 : (x_qzxid == y_qzxid) = false := by simpa using q
    rw [eqAcs_self] at CA
    have hqq : ∀ h a b, eqQ h a b h a b = true := fun h a b => by simp [eqQ]
    have CA := Lib.hid CA
    clear hxy q
    have HW2 := Lib.hid hW2
    unfold ndC at hx hy hv1 hv2 CA HW2 ⊢
    clear hW2
    go_enter Tryz.func55, Tryz.ntmps55
    go_wp2_with fail
    refine CA.out.mono ?_
    rintro e w3 ⟨rfl, hb3⟩
    rw [← HW2.out] at hb3
    have hx3 := hx.below hb3 (by omega)
    have hy3 := hy.below hb3 (by omega)
    have hbb := hb2.trans (hb3.mono (by omega))
    unfold Box at hx3 hy3
    clear CA hx hy hv1 hv2 hb3 hb2 HW2
    go_wp2
    go_ret
    exact ⟨rfl, hbb⟩
  subst q
  by_cases q : x_ctime = y_ctime
  rotate_left
  · have f1 : (x_ctime != y_ctime) = true := by simpa using q
    have f2 : (x_ctime == y_ctime) = false := by simpa using q
    rw [eqAcs_self] at CA
    have hqq : ∀ h a b, eqQ h a b h a b = true := fun h a b => by simp [eqQ]
    have CA := Lib.hid CA
    clear hxy q
    have HW2 := Lib.hid hW2
    unfold ndC at hx hy hv1 hv2 CA HW2 ⊢
    clear hW2
    go_enter Tryz.func55, Tryz.ntmps55
    go_wp2_with fail
    refine CA.out.mono ?_
    rintro e w3 ⟨rfl, hb3⟩
    rw [← HW2.out] at hb3
    have hx3 := hx.below hb3 (by omega)
    have hy3 := hy.below hb3 (by omega)
    have hbb := hb2.trans (hb3.mono (by omega))
    unfold Box at hx3 hy3
    clear CA hx hy hv1 hv2 hb3 hb2 HW2
    go_wp2
    go_ret
    exact ⟨rfl, hbb⟩
  subst q
  by_cases q : x_mtime = y_mtime
  rotate_left
  · have f1 : (x_mtime != y_mtime) = true := by simpa using q
    have f2 : (x_mtime == y_mtime) = false := by simpa using q
    rw [eqAcs_self] at CA
    have hqq : ∀ h a b, eqQ h a b h a b = true := fun h a b => by simp [eqQ]
    have CA := Lib.hid CA
    clear hxy q
    have HW2 := Lib.hid hW2
    unfold ndC at hx hy hv1 hv2 CA HW2 ⊢
    clear hW2
    go_enter Tryz.func55, Tryz.ntmps55
    go_wp2_with fail
    refine CA.out.mono ?_
    rintro e w3 ⟨rfl, hb3⟩
    rw [← HW2.out] at hb3
    have hx3 := hx.below hb3 (by omega)
    have hy3 := hy.below hb3 (by omega)
    have hbb := hb2.trans (hb3.mono (by omega))
    unfold Box at hx3 hy3
    clear CA hx hy hv1 hv2 hb3 hb2 HW2
    go_wp2
    go_ret
    exact ⟨rfl, hbb⟩
  subst q
  by_cases q : x_version = y_version
  rotate_left
  · have f1 : (x_version != y_version) = true := by simpa using q
    have f2 : (x_version == y_version) = false := by simpa using q
    rw [eqAcs_self] at CA
    have hqq : ∀ h a b, eqQ h a b h a b = true := fun h a b => by simp [eqQ]
    have CA := Lib.hid CA
    clear hxy q
    have HW2 := Lib.hid hW2
    unfold ndC at hx hy hv1 hv2 CA HW2 ⊢
    clear hW2
    go_enter Tryz.func55, Tryz.ntmps55
    go_wp2_with fail
    refine CA.out.mono ?_
    rintro e w3 ⟨rfl, hb3⟩
    rw [← HW2.out] at hb3
    have hx3 := hx.below hb3 (by omega)
    have hy3 := hy.below hb3 (by omega)
    have hbb := hb2.trans (hb3.mono (by omega))
    unfold Box at hx3 hy3
    clear CA hx hy hv1 hv2 hb3 hb2 HW2
    go_wp2
    go_ret
    exact ⟨rfl, hbb⟩
  subst q
  by_cases q : x_creates = y_creates
  rotate_left
  · have f1 : (x_creates != y_creates) = true := by simpa using q
    have f2 : (x_creates == y_creates) = false := by simpa using q
    rw [eqAcs_self] at CA
    have hqq : ∀ h a b, eqQ h a b h a b = true := fun h a b => by simp [eqQ]
    have CA := Lib.hid CA
    clear hxy q
    have HW2 := Lib.hid hW2
    unfold ndC at hx hy hv1 hv2 CA HW2 ⊢
    clear hW2
    go_enter Tryz.func55, Tryz.ntmps55
    go_wp2_with fail
    refine CA.out.mono ?_
    rintro e w3 ⟨rfl, hb3⟩
    rw [← HW2.out] at hb3
    have hx3 := hx.below hb3 (by omega)
    have hy3 := hy.below hb3 (by omega)
    have hbb := hb2.trans (hb3.mono (by omega))
    unfold Box at hx3 hy3
    clear CA hx hy hv1 hv2 hb3 hb2 HW2
    go_wp2
    go_ret
    exact ⟨rfl, hbb⟩
  subst q
  by_cases q : x_aversion = y_aversion
  rotate_left
  · have f1 : (x_aversion != y_aversion) = true := by simpa using q
    have f2 : (x_aversion == y_aversion) = false := by simpa using q
    rw [eqAcs_self] at CA
    have hqq : ∀ h a b, eqQ h a b h a b = true := fun h a b => by simp [eqQ]
    have CA := Lib.hid CA
    clear hxy q
    have HW2 := Lib.hid hW2
    unfold ndC at hx hy hv1 hv2 CA HW2 ⊢
    clear hW2
    go_enter Tryz.func55, Tryz.ntmps55
    go_wp2_with fail
    refine CA.out.mono ?_
    rintro e w3 ⟨rfl, hb3⟩
    rw [← HW2.out] at hb3
    have hx3 := hx.below hb3 (by omega)
    have hy3 := hy.below hb3 (by omega)
    have hbb := hb2.trans (hb3.mono (by omega))
    unfold Box at hx3 hy3
    clear CA hx hy hv1 hv2 hb3 hb2 HW2
    go_wp2
    go_ret
    exact ⟨rfl, hbb⟩
  subst q
  exact absurd rfl hxy
end Go.Proofs.YthinpbdbhijbgaaGreatDoor
