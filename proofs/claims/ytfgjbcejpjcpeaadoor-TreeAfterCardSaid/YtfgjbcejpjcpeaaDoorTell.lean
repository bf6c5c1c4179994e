/- The walk of the function that a tree's nodes are told by: what each round is handed, what it keeps. -/
import Derived.Test.YtfgjbcejpjcpeaaDoorRng
import Derived.Test.YtfgjbcejpjcpeaaDoorChi
import Derived.TacticsIn
import Derived.Deep.CutBlock
namespace Go.Proofs.YtfgjbcejpjcpeaaDoor
open Go.RowKit Go.Sort
set_option maxHeartbeats 2000000
set_option maxRecDepth 100000

section
variable {P : Program} {n : Nat} {o : Oper} {a : Act} {w : World} {K : Act → World → Prop} {Q : Exit → Act → World → Prop}
theorem operIn_value {w' : World} {v : Value} (h : (execOp a.eval o).run P w = .ok (.value v) w') (hK : K (a.put o.dst v) w') : o.wpIn Fence.wide n P a w K Q := by
  refine ⟨fun _ _ => trivial, ?_⟩
  rw [show (o.semAt Fence.wide.round a.eval) = execOp a.eval o from rfl, h]
  exact hK
theorem operIn_enter {f : FuncId} {args : Array Value} {R : Ending → World → Prop} (h : (execOp a.eval o).run P w = .ok (.enter f args) w) (hc : Calls P f args w R) (hR : ∀ e w', R e w' → ∃ v, e = .returned v ∧ K (a.put o.dst v) w') : o.wpIn Fence.wide n P a w K Q := by
  refine ⟨fun _ _ => trivial, ?_⟩
  rw [show (o.semAt Fence.wide.round a.eval) = execOp a.eval o from rfl, h]
  refine ⟨(fun h => by cases h), callsIn_wide.2 (hc.mono fun e w' hr => ?_)⟩
  obtain ⟨v, rfl, hk⟩ := hR e w' hr
  exact hk
theorem operIn_round {l f : Nat} {tmps : Array Value} {assign body : Code} {R : Ending → World → Prop} (h : (execOp a.eval o).run P w = .ok (.round l f tmps assign body) w) (hc : RoundIn Fence.wide (n - 1) P l f tmps assign body w R) (hR : ∀ e w', R e w' → ∃ v, e = .returned v ∧ K (a.put o.dst v) w') : o.wpIn Fence.wide n P a w K Q := by
  refine ⟨fun _ _ => trivial, ?_⟩
  rw [show (o.semAt Fence.wide.round a.eval) = execOp a.eval o from rfl, h]
  refine ⟨(fun h => by cases h), hc.mono fun e w' hr => ?_⟩
  obtain ⟨v, rfl, hk⟩ := hR e w' hr
  exact hk
theorem ex_yield {x : Operand} {args : Array Operand} {ts : Array TypeId} {l f : Nat} {tmps : Array Value} {assign body : Code} (ho : o.op = .call { callee := .value x, args := args, argTypes := ts }) (hx : a.eval x = .func (.yield l) #[] #[])
    (hy : (Instr.yield l (args.map a.eval)).run P w = .ok (.round l f tmps assign body) w) : (execOp a.eval o).run P w = .ok (.round l f tmps assign body) w := by
  simp [execOp, ho, resolve, hx, Deferred.ofValue, invoke, hy]
theorem ex_callv {x : Operand} {args : Array Operand} {ts : Array TypeId} {f : FuncId} {bnd cap : Array Value} (ho : o.op = .call { callee := .value x, args := args, argTypes := ts }) (hx : a.eval x = .func (.func f) bnd cap)
    (hen : ∀ args w, (callFunc f args).run P w = .ok (.enter f args) w) : (execOp a.eval o).run P w = .ok (.enter f (bnd ++ args.map a.eval ++ cap)) w := by
  simp [execOp, ho, resolve, hx, Deferred.ofValue, invoke, hen]
end

theorem infoNd : (Tryd.prog.info? 37).map (fun i => (i.zero, i.size, i.bytes)) = some (some (.agg zeroNd), 17, 168) := by kernel_rfl
theorem infoStr : (Tryd.prog.info? 9).map (fun i => (i.zero, i.size, i.bytes)) = some (some (.string ⟨#[]⟩), 1, 16) := by kernel_rfl

/-- What a round keeps: the cells that are safe. -/
def KeepS (Safe : World → Nat → Prop) (W W' : World) : Prop :=
  W.heap.size ≤ W'.heap.size ∧ ∀ k c e f, W.heap[k]? = some (.cells c e f) → Safe W k → W'.heap[k]? = some (.cells c e f) ∧ Safe W' k
/-- What a round is handed: a node, its cells safe. -/
def GS (Safe : World → Nat → Prop) (x : Value × Nd) (W : World) : Prop := NdS (fun b => Safe W b ∧ b < W.heap.size) W x.1 x.2
def nodesOf (M : List (Key × Nd)) (ks : List Key) : List Nd := ks.map fun k => (mget M k).getD zeroN

/-- The blocks that are told from stay and are safe. -/
def Pers (Safe : World → Nat → Prop) (P2 : Nat → Prop) (W2 wr : World) : Prop :=
  W2.heap.size ≤ wr.heap.size ∧ ∀ b c e f, P2 b → W2.heap[b]? = some (.cells c e f) → wr.heap[b]? = some (.cells c e f) ∧ Safe wr b
theorem Pers.ext {Safe : World → Nat → Prop} {P2 : Nat → Prop} {W2 A B : World} (h : Pers Safe P2 W2 A) (he : Ext A B) (hs : ∀ k, Safe A k → Safe B k) : Pers Safe P2 W2 B :=
  ⟨Nat.le_trans h.1 he.size, fun b c e f hb hc => by
    obtain ⟨h1, h2⟩ := h.2 b c e f hb hc
    exact ⟨(he.block b (Array.getElem?_eq_some_iff.1 h1).1).trans h1, hs _ h2⟩⟩
theorem Pers.keep {Safe : World → Nat → Prop} {P2 : Nat → Prop} {W2 A B : World} (h : Pers Safe P2 W2 A) (hk : KeepS Safe A B) : Pers Safe P2 W2 B :=
  ⟨Nat.le_trans h.1 hk.1, fun b c e f hb hc => by
    obtain ⟨h1, h2⟩ := h.2 b c e f hb hc
    exact hk.2 b c e f h1 h2⟩
theorem Pers.cell {Safe : World → Nat → Prop} {P2 : Nat → Prop} {W2 A : World} (h : Pers Safe P2 W2 A) {b o : Nat} {u : Value} (hb : P2 b) (hu : W2.cell? ⟨b, o, none⟩ = some u) : A.cell? ⟨b, o, none⟩ = some u := by
  obtain ⟨c, e, f, hk⟩ := cell_cells hu
  rw [World.cell?_of_block ((h.2 b c e f hb hk).1.trans hk.symm)]
  exact hu

theorem flat17 : ∀ (vs : List (Array Value)) (i : Nat) (cs : Array Value), (∀ x ∈ vs, x.size = 17) → vs[i]? = some cs → ∀ j u, cs[j]? = some u → (vs.flatMap Array.toList)[i * 17 + j]? = some u
  | [], i, cs, _, h, _, _, _ => by simp at h
  | x :: vs, 0, cs, hs, h, j, u, hj => by
    simp at h
    subst h
    have hx := hs x (by simp)
    have hjl := (Array.getElem?_eq_some_iff.1 hj).1
    rw [List.flatMap_cons, Nat.zero_mul, Nat.zero_add, List.getElem?_append_left (by simpa using hjl)]
    simpa using hj
  | x :: vs, i + 1, cs, hs, h, j, u, hj => by
    have hx := hs x (by simp)
    rw [List.flatMap_cons, List.getElem?_append_right (by simp [hx]; omega)]
    have := flat17 vs i cs (fun y hy => hs y (by simp [hy])) (by simpa using h) j u hj
    rw [show (i + 1) * 17 + j - x.toList.length = i * 17 + j by simp [hx]; omega]
    exact this

theorem ownBlock_ge {w : World} {base e size n : Nat} {v : Value} {xs : List Value} (h : w.ownsRow base e size v n xs) (k : Nat) (hk : v.ownBlock = some k) : base ≤ k := by
  rcases h.2 with ⟨rfl, _⟩ | ⟨g, cap, cur, rfl, hb, _⟩
  · simp [Value.ownBlock] at hk
  · simp [Value.ownBlock] at hk; omega

set_option maxHeartbeats 4000000 in
theorem told_tells (Safe : World → Nat → Prop) (S0 : Nat → Prop) (w : World) (bt : Nat) (M : List (Key × Nd)) (N : Nat) (hT : TreeAt S0 w bt M N) (hsafe : ∀ k, S0 k → Safe w k) (bw btb fw : Nat) (bnd cap : Array Value)
    (hcw : w.cell? ⟨bw, 0, none⟩ = some (.func (.func fw) bnd cap)) (hct : w.cell? ⟨btb, 0, none⟩ = some (.pointer (some ⟨bt, 0, none⟩)))
    (hen : ∀ args w, (callFunc fw args).run Tryd.prog w = .ok (.enter fw args) w) (ks : List Key) (hw : ∀ W, Ext w W → Calls Tryd.prog fw (bnd ++ cap) W (SortedOut ks W)) (hks : ks.length * 168 ≤ 140737488355328) (hkl : ∀ k ∈ ks, k.length ≤ maxLen) :
    Tells Fence.wide 5 Tryd.prog 66 #[.pointer (some ⟨bw, 0, none⟩), .pointer (some ⟨btb, 0, none⟩)] (fun x : Value × Nd => #[x.1]) (GS Safe) (KeepS Safe) Safe
      (fun xs => xs.map (·.2) = nodesOf M ks) (fun pre => ∃ rest, pre.map (·.2) ++ rest = nodesOf M ks) w := by
  intro l J Jx W hW hSW hJ hY h0
  refine callsIn_wide.2 ?_
  have hTW := hT.ext hW
  have hbnd := hT.bound
  have hbtl := hT.bound
  have hcwW : W.cell? ⟨bw, 0, none⟩ = some (.func (.func fw) bnd cap) := (hW.cell (p := ⟨bw, 0, none⟩) (World.block_lt_of_cell? _ _ hcw)).trans hcw
  have hctW : W.cell? ⟨btb, 0, none⟩ = some (.pointer (some ⟨bt, 0, none⟩)) := (hW.cell (p := ⟨btb, 0, none⟩) (World.block_lt_of_cell? _ _ hct)).trans hct
  have hbtlt : btb < W.heap.size := World.block_lt_of_cell? _ _ hctW
  have CW := hw W hW
  have HY := Lib.hid hY
  have HJ := Lib.hid hJ
  have HT := Lib.hid hTW
  have CW := Lib.hid CW
  have HSW := Lib.hid hSW
  have HSafe := Lib.hid hsafe
  clear hcw hct hT hw hY hJ hTW hSW hsafe
  go_enter Tryd.func66, Tryd.ntmps66
  go_wp2_with fail
  refine CW.out.mono ?_
  rintro e W1 ⟨v, rfl, hrow, hnil, hE1⟩
  obtain ⟨sa, sc, rfl, hcs⟩ := ownsRow_cells hrow
  have hT1 := HT.out.ext hE1
  have hz1 := hE1.size
  have hct1 : W1.cell? ⟨btb, 0, none⟩ = some (.pointer (some ⟨bt, 0, none⟩)) := (hE1.cell (p := ⟨btb, 0, none⟩) hbtlt).trans hctW
  have hlen : ks.length ≤ 9223372036854775807 := by omega
  clear CW hrow hnil hcwW hctW
  go_wp2
  go_loopw [4, 12] (fun lv i wr => ∃ (k : Nat) (vs : List (Array Value)), k ≤ ks.length ∧ i = .int .i64 k ∧ vs.length = k ∧ wr.ownsRow W1.heap.size 37 17 lv k (vs.flatMap Array.toList) ∧ Ext W1 wr ∧ (∀ x ∈ vs, x.size = 17) ∧ Hid (∀ (j : Nat) (cs : Array Value), vs[j]? = some cs → ∃ n, (nodesOf M ks)[j]? = some n ∧ NdS S0 W1 (.agg cs) n)) (fun _ i _ => ks.length - (intOf i).toNat)
  case atStart => exact ⟨0, [], Nat.zero_le _, rfl, rfl, World.ownsRow_nil _ _ _ _, Ext.refl _, by simp, by unfold Hid; simp⟩
  case round =>
    obtain ⟨k, vs, hk, rfl, hvl, hown, hEr, hv17, HV⟩ := hrel
    by_cases hlt : k < ks.length
    · obtain ⟨b, off, rfl, hb, hc⟩ := hcs k (encStr ks[k]) (by rw [List.getElem?_map, List.getElem?_eq_getElem hlt]; rfl)
      have hcr : wr.cell? ⟨b, off + k, none⟩ = some (encStr ks[k]) := (hEr.cell (p := ⟨b, off + k, none⟩) hb).trans hc
      have hkz : (⟨ks[k].toArray⟩ : ByteArray).size ≤ maxLen := by
        have := hkl ks[k] (List.getElem_mem hlt)
        rw [← size_list]; simpa using this
      have hTr := hT1.ext hEr
      obtain ⟨bn, bk, K, hd, hNd, hKd⟩ := hTr
      have hx := TreeAt.box hd
      obtain ⟨vv, hvv, _, hq⟩ := hNd.look' ⟨ks[k].toArray⟩ hkz
      rw [key_back] at hvv
      have hvv1 : NdS S0 W1 vv ((mget M ks[k]).getD zeroN) := hvv.imp (fun _ h => h) (fun b o u hb hu => (hEr.cell (p := ⟨b, o, none⟩) (hT1.bound b hb)).symm.trans hu)
      obtain ⟨da, dc, aa, ac, rfl, _⟩ := hvv
      generalize hn : (mget M ks[k]).getD zeroN = n at *
      have hsnoc : (vs ++ [ndC n (.slice da n.data.length dc) (.slice aa n.acl.length ac)]).flatMap Array.toList = vs.flatMap Array.toList ++ (ndC n (.slice da n.data.length dc) (.slice aa n.acl.length ac)).toList := by simp
      have HV2 : Hid (∀ (j : Nat) (cs : Array Value), (vs ++ [ndC n (.slice da n.data.length dc) (.slice aa n.acl.length ac)])[j]? = some cs → ∃ n, (nodesOf M ks)[j]? = some n ∧ NdS S0 W1 (.agg cs) n) := by
        intro j cs hj
        by_cases hjk : j < vs.length
        · rw [List.getElem?_append_left hjk] at hj
          exact HV.out j cs hj
        · rw [List.getElem?_append_right (by omega)] at hj
          have hj0 : j = vs.length := by
            have := (List.getElem?_eq_some_iff.1 hj).1
            simp at this; omega
          subst hj0
          simp at hj
          subst hj
          refine ⟨n, ?_, hvv1⟩
          unfold nodesOf
          rw [List.getElem?_map, hvl, List.getElem?_eq_getElem hlt, Option.map_some, hn]
      have hct : wr.cell? ⟨btb, 0, none⟩ = some (.pointer (some ⟨bt, 0, none⟩)) := (hEr.cell (p := ⟨btb, 0, none⟩) (show btb < W1.heap.size by omega)).trans hct1
      have hs17 : Cells (wr.alloc (.cells (ndC n (.slice da n.data.length dc) (.slice aa n.acl.length ac)) 37)).heap.size (wr.alloc (.cells (ndC n (.slice da n.data.length dc) (.slice aa n.acl.length ac)) 37)) (some ⟨wr.heap.size, 0, none⟩) (ndC n (.slice da n.data.length dc) (.slice aa n.acl.length ac)).toList := fun j u hj => by
        refine ⟨_, 0, rfl, by simp, ?_⟩
        rw [Nat.zero_add, cell_of_row _ _ _ _ _ _ (heap_alloc_new wr _)]
        simpa using hj
      have hsrc : Src Tryd.prog 17 22 (.slice (some ⟨wr.heap.size, 0, none⟩) 1 1) 1 (ndC n (.slice da n.data.length dc) (.slice aa n.acl.length ac)).toList (wr.alloc (.cells (ndC n (.slice da n.data.length dc) (.slice aa n.acl.length ac)) 37)) :=
        hs17.src Tryd.underlying22 1 1 (by simp [ndC]) (fun u hu => by
          have := cells_node n da aa n.data.length n.acl.length dc ac
          rw [← Array.all_toList] at this
          exact List.all_eq_true.1 this u hu)
      obtain ⟨i0, hi, hz0, hz1', hz2⟩ := info_parts infoNd
      have hownA := hown.alloc (.cells (ndC n (.slice da n.data.length dc) (.slice aa n.acl.length ac)) 37)
      have hzr := hEr.size
      have HSN := Lib.hid hsnoc
      unfold Box treeC at hx
      unfold ndC at hq hsrc hownA
      clear hsnoc hd hNd hKd hs17 hvv1 hcs hn hc HV
      go_wp2_with (at_builtin; refine wpList_append_src _ rfl (.tmp 16) (.tmp 23) 22 22 rfl W1.heap.size 37 i0 (.agg zeroNd) 17 168 Tryd.underlying22 hi hz0 hz1' hz2 rfl (by decide) _ k _ rfl hownA _ 1 _ rfl hsrc ?c1 ?c2 ?c3 ?_)
      case c1 => unfold maxLen; omega
      case c2 => omega
      case c3 => first | omega | (simp; omega)
      intro v' w5 hown5 hg5 _ _
      have hE5 : Ext W1 w5 := (Below.alloc hEr hzr _).grown hg5 (by simp; omega) (fun g hg => ownBlock_ge hown g hg)
      rw [show [Value.string n.path, .slice da n.data.length dc, .slice aa n.acl.length ac, .int .i64 n.owner, .int .i64 n.czxid, .int .i64 n.mzxid, .int .i64 n.pzxid, .int .i64 n.azxid, .int .i64 n.qzxid, .int .i64 n.ctime, .int .i64 n.mtime, .int .i32 n.version, .int .i32 n.creates, .int .i32 n.aversion, .bool n.has, .int .i64 n.count, .int .i64 n.bytes] = (ndC n (.slice da n.data.length dc) (.slice aa n.acl.length ac)).toList from rfl, ← HSN.out] at hown5
      have HO5 := Lib.hid hown5
      clear hown5 hg5 hown hownA hsrc hEr hcr hct hx hq
      go_wp2
      go_roundw
      case rel =>
        refine ⟨k + 1, _, by omega, by go_num, by simp [hvl], HO5.out, hE5, fun x hx => ?_, HV2⟩
        rcases List.mem_append.1 hx with hx | hx
        · exact hv17 x hx
        · simp at hx; subst hx; rfl
      case measure => simp [intOf]; omega
    · obtain rfl : k = ks.length := by omega
      obtain ⟨la, lc, rfl, hrows⟩ := ownsRow_from hown
      have hJ2 := HJ.out [] W wr h0 (hE1.trans hEr)
      obtain ⟨hJ0, hSm, hSn⟩ := hJ2
      obtain ⟨W2, hW2⟩ : ∃ W2, W2 = wr := ⟨_, rfl⟩
      have hP0 : Pers Safe (fun b => S0 b ∨ W1.heap.size ≤ b) W2 wr := by
        rw [hW2]
        refine ⟨Nat.le_refl _, fun b c e f hb hc => ⟨hc, ?_⟩⟩
        rcases hb with hb | hb
        · exact hSm b (HSW.out b (hbnd b hb) (HSafe.out b hb))
        · exact hSn b (by omega)
      rw [← hW2] at hrows hEr
      clear hW2 hSm hSn hown h0 hcs hct1 HSW HSafe HT hW
      have hvs : ∀ (k : Nat), k < ks.length → ∃ (n : Nd) (da : Option Addr) (dc : Nat) (aa : Option Addr) (ac : Nat), (nodesOf M ks)[k]? = some n ∧ vs[k]? = some (ndC n (.slice da n.data.length dc) (.slice aa n.acl.length ac)) ∧ CellsS S0 W1 da (n.data.map u8v) ∧ CellsS S0 W1 aa (acCs n.acl) ∧ Fit n := fun k hk => by
        have hvk : vs[k]? = some (vs[k]'(by omega)) := List.getElem?_eq_getElem (by omega)
        obtain ⟨n, hn, da, dc, aa, ac, e, h1, h2⟩ := HV.out k _ hvk
        refine ⟨n, da, dc, aa, ac, hn, ?_, h1, h2, ?_⟩
        · rw [hvk]; simp only [Value.agg.injEq] at e; rw [e]
        · unfold nodesOf at hn
          rw [List.getElem?_map, List.getElem?_eq_getElem hk] at hn
          simp at hn
          rw [← hn]
          obtain ⟨_, _, _, _, hNd, _⟩ := hT1
          exact hNd.ok.fit _
      have HVS := Lib.hid hvs
      have HRows := Lib.hid hrows
      have HEr := Lib.hid hEr
      have hnl : (nodesOf M ks).length = ks.length := by simp [nodesOf]
      have HNL := Lib.hid hnl
      have H17 := Lib.hid hv17
      clear hvs hrows hEr hv17 HV hnl hE1 hvl
      go_wp2
      go_loopw [28] (fun i wt => ∃ (k : Nat) (pre : List (Value × Nd)), k ≤ ks.length ∧ i = .int .i64 k ∧ Hid (pre.map (·.2) = (nodesOf M ks).take k) ∧ J pre wt ∧ Pers Safe (fun b => S0 b ∨ W1.heap.size ≤ b) W2 wt) (fun i _ => ks.length - (intOf i).toNat)
      case atStart => exact ⟨0, [], Nat.zero_le _, rfl, rfl, hJ0, hP0⟩
      case round =>
        obtain ⟨k, pre, hk, rfl, HPre, hJk, hPk⟩ := hrel
        by_cases hlt : k < ks.length
        · obtain ⟨n, da, dc, aa, ac, hn, hv, hD, hA, hfit⟩ := HVS.out k hlt
          have hfl := flat17 vs k _ H17.out hv
          obtain ⟨g, off, rfl, _, _, _⟩ := HRows.out (k * 17 + 0) _ (hfl 0 (.string n.path) rfl)
          have hcw : ∀ j u, (ndC n (.slice da n.data.length dc) (.slice aa n.acl.length ac))[j]? = some u → wr.cell? ((⟨g, off + k * 17, none⟩ : Addr).add j) = some u := fun j u hj => by
            obtain ⟨g', off', e, h1, h2, h3⟩ := HRows.out (k * 17 + j) u (hfl j u hj)
            simp only [Option.some.injEq, Addr.mk.injEq, and_true] at e
            obtain ⟨rfl, rfl⟩ := e
            rw [addr_add, Nat.add_assoc]
            exact hPk.cell (.inr h1) h3
          obtain ⟨W4, hW4⟩ : ∃ W4, W4 = wr.alloc (.cells (ndC n (.slice da n.data.length dc) (.slice aa n.acl.length ac)) 37) := ⟨_, rfl⟩
          have hE4 : Ext wr W4 := by rw [hW4]; exact Ext.alloc _ _
          have hz4 : W4.heap.size = wr.heap.size + 1 := by rw [hW4]; simp
          have hn4 : W4.heap[wr.heap.size]? = some (.cells (ndC n (.slice da n.data.length dc) (.slice aa n.acl.length ac)) 37 (0, 0)) := by rw [hW4]; exact heap_alloc_new wr _
          obtain ⟨hJ4, hSm4, _⟩ := HJ.out pre wr W4 hJk hE4
          have hP4 := hPk.ext hE4 hSm4
          have hcell4 : ∀ (b o : Nat) u, S0 b → W1.cell? ⟨b, o, none⟩ = some u → W4.cell? ⟨b, o, none⟩ = some u := fun b o u hb hu =>
            hP4.cell (.inl hb) ((HEr.out.cell (p := ⟨b, o, none⟩) (hT1.bound b hb)).trans hu)
          have hbz : ∀ b, S0 b → b < W4.heap.size := fun b hb => by
            have := hT1.bound b hb
            have := HEr.out.size
            have := hP4.1
            omega
          have hD4 : Cells W4.heap.size W4 da (n.data.map u8v) := (hD.imp (fun _ h => h) hcell4).cells hbz
          have hA4 : Cells W4.heap.size W4 aa (acCs n.acl) := (hA.imp (fun _ h => h) hcell4).cells hbz
          have C4 := sclone_nd n da aa dc ac W4 hfit hD4 hA4
          have HC := Lib.hid hcw
          have HN := Lib.hid hn4
          have HSET := Lib.hid ((setRow_alloc wr zeroNd (ndC n (.slice da n.data.length dc) (.slice aa n.acl.length ac)) 37).trans hW4.symm)
          have HNew := Lib.hid (heap_alloc_new wr (.cells zeroNd 37))
          have HNk := Lib.hid hn
          have C4 := Lib.hid C4
          unfold ndC at HC HN HSET
          unfold zeroNd at HSET HNew
          clear hcw hW4 hn4 hfl hv hD hA hJk hPk hcell4 hD4 hA4 hE4 hSm4 hbz hn
          go_upto_region 9 with (first | (refine wpList_load_at rfl 37 (.tmp 30) rfl _ rfl _ _ HC.out Tryd.underlying37 rfl sizeNd ?_) | (refine wpList_store_row rfl 37 (.tmp 8) (.tmp 31) rfl wr.heap.size _ rfl rfl 37 _ HNew.out sizeNd rfl (cells_node n da aa _ _ dc ac) ?_; rw [HSET.out]))
          rw [put_none]
          refine (wpIn_wide (n := 5)).1 (wpIn_region_list ?_)
          refine wpListIn_plain rfl fun K1 hK1 => operIn_value (ex_move rfl) (hK1 _ _ ?_)
          refine wpListIn_plain rfl fun K2 hK2 => operIn_value (ex_load_row rfl wr.heap.size rfl 37 _ (0, 0) _ HN.out Tryd.underlying37 rfl sizeNd) (hK2 _ _ ?_)
          refine wpListIn_plain rfl fun K3 hK3 => operIn_enter (ex_call rfl (enters_f Tryd.func49 (by kernel_rfl) rfl)) (R := CloneS n W4) (by simp only [List.map_toArray, List.map_cons, List.map_nil]; exact C4.out) ?_
          rintro e W5 ⟨v, rfl, hv, hE5⟩
          refine ⟨_, rfl, hK3 _ _ ?_⟩
          have hq5 := HJ.out pre W4 W5 hJ4 hE5
          have hJ5 := hq5.1
          have hP5 := hP4.ext hE5 hq5.2.1
          have hG5 : GS Safe (v, n) W5 := hv.imp (fun b hb => ⟨hq5.2.2 b hb.1, hb.2⟩) (fun _ _ _ _ h => h)
          have HPre2 : Hid ((pre ++ [(v, n)]).map (·.2) = (nodesOf M ks).take (k + 1)) := by
            unfold Hid
            rw [List.map_append, HPre.out, List.take_add_one, HNk.out]
            rfl
          have hY5 := HY.out pre (v, n) W5 ⟨(nodesOf M ks).drop (k + 1), by rw [HPre2.out, List.take_append_drop]⟩ hJ5 hG5
          clear hq5 hG5 hv HPre
          revert hY5
          rintro ⟨fn, tmps, assign, body, hy, hR⟩
          refine wpListIn_plain rfl fun K4 hK4 => operIn_round (ex_yield rfl rfl (by simp only [List.map_toArray, List.map_cons, List.map_nil]; exact hy)) hR ?_
          rintro e W6 (⟨rfl, hJ6, hKp⟩ | ⟨rfl, hJx6⟩)
          · refine ⟨_, rfl, hK4 _ _ ?_⟩
            refine wpListIn_plain rfl fun K5 hK5 => operIn_value (v := .bool false) (w' := W6) (by kernel_rfl) (hK5 _ _ ?_)
            refine wpListIn_nil ?_
            have hP6 := hP5.keep hKp
            clear hK1 hK2 hK3 hK4 hK5 hy hR hJ5 hP5 hJ4 hP4 C4 HC HN HSET HNew hKp
            simp only [Exit.then, Act.put]
            go_simp
            rename_i hKd
            refine hKd _ _ ?_
            clear hKd
            go_wp2
            go_roundw
            case rel => exact ⟨k + 1, _, by omega, by go_num, HPre2, hJ6, hP6⟩
            case measure => simp [intOf]; omega
          · refine ⟨_, rfl, hK4 _ _ ?_⟩
            refine wpListIn_plain rfl fun K5 hK5 => operIn_value (v := .bool true) (w' := W6) (by kernel_rfl) (hK5 _ _ ?_)
            refine wpListIn_nil ?_
            clear hK1 hK2 hK3 hK4 hK5 hy hR hJ5 hP5 hJ4 hP4 C4 HC HN HSET HNew
            simp only [Exit.then, Act.put]
            go_simp
            rename_i hKd
            refine hKd _ _ ?_
            clear hKd
            go_wp2
            refine ⟨rfl, _, results_none rfl _ _ _, ⟨_, rfl⟩, .inr ⟨_, ⟨(nodesOf M ks).drop (k + 1), ?_⟩, hJx6⟩⟩
            rw [HPre2.out, List.take_append_drop]
        · obtain rfl : k = ks.length := by omega
          have hPre := HPre.out
          rw [List.take_of_length_le (by rw [HNL.out]; exact Nat.le_refl _)] at hPre
          have HPre2 := Lib.hid hPre
          clear hPre HPre HVS HRows H17
          go_wp2
          exact ⟨rfl, _, results_none rfl _ _ _, ⟨_, rfl⟩, .inl ⟨_, HPre2.out, hJk⟩⟩
end Go.Proofs.YtfgjbcejpjcpeaaDoor
