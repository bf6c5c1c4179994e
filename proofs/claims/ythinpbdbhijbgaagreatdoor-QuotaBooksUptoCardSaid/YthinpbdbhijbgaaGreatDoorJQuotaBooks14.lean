/- Plain laws: the document's list of the quotas over a path is the program's; its bounds are passed alike. The walk of package quota's Over: the paths of the quotas over a path. The walk of arborref07's Weigh. The walks of arborref10's Over, above, Passes, Exceeds. The walk of a quota book's Used. The walks of arborref05's Of, arborref07's Stat and Children. The walks of arborref10's Passes, Exceeds, Begin. The walk of a quota book's List. The walks of arborref10's Begin and arborlaw10's same. -/
import Derived.Test.YthinpbdbhijbgaaGreatDoorJQuotaBooks13
import Derived.Test.YthinpbdbhijbgaaGreatDoorJQuotaBooks11
import Derived.Test.YthinpbdbhijbgaaGreatDoorJQuotaBooks9
import Derived.Test.YthinpbdbhijbgaaGreatDoorJQuotaBooks10
import Derived.Test.YthinpbdbhijbgaaGreatDoorJQuotaBooks6
import Derived.Test.YthinpbdbhijbgaaGreatDoorIterQ
import Derived.BigQuiet
namespace Go.Proofs.YthinpbdbhijbgaaGreatDoor
open Go.RowKit Go.Sort

theorem bytes_trans' {a b c : List UInt8} (h1 : bytesBefore a b = true) (h2 : bytesBefore b c = true) : bytesBefore a c = true := WideShapes.bytes_trans _ _ _ h1 h2
theorem upL_before : ∀ (n : Nat) (p : ByteArray), p.size ≤ n → vpath p = true → (upL p).Pairwise (fun a b => bytesBefore b.data.toList a.data.toList = true) ∧ ∀ q ∈ upL p, bytesBefore q.data.toList p.data.toList = true
  | 0, p, hn, hv => by have := (vpath_facts hv).1; omega
  | n + 1, p, hn, hv => by
    by_cases h1 : p.size = 1
    · rw [upL_one h1]
      exact ⟨List.Pairwise.nil, fun q h => by simp at h⟩
    · have hs := (path_split hv h1).2.2.1
      obtain ⟨i1, i2⟩ := upL_before n (parentB p) (by omega) (vpath_parent hv h1)
      have hb := parent_before hv h1
      rw [upL_step hv h1]
      refine ⟨List.pairwise_cons.2 ⟨i2, i1⟩, fun q hq => ?_⟩
      rcases List.mem_cons.1 hq with rfl | hq
      · exact hb
      · exact bytes_trans' (i2 q hq) hb
theorem lineL_sorted {p : ByteArray} (hv : vpath p = true) : (lineL p).Pairwise fun a b => bytesBefore a.data.toList b.data.toList = true := by
  obtain ⟨h1, h2⟩ := upL_before p.size p (Nat.le_refl _) hv
  unfold lineL
  rw [List.pairwise_append]
  refine ⟨List.pairwise_reverse.2 h1, by simp, fun a ha b hb => ?_⟩
  rw [List.mem_singleton] at hb
  subst hb
  exact h2 a (List.mem_reverse.1 ha)
theorem quoN_path {M : List (Key × Nd)} (hM : MOk M) {q : ByteArray} {n : Nd} (h : n ∈ quoN M q) : n.path = q ∧ mget M q.data.toList = some n ∧ n.has = true := by
  unfold quoN at h
  split at h
  · rename_i m hm
    split at h
    · rename_i hh
      rw [List.mem_singleton] at h
      subst h
      exact ⟨(ba_ext (hM.at hm).1).symm, hm, hh⟩
    · simp at h
  · simp at h
theorem quo_sorted {M : List (Key × Nd)} (hM : MOk M) : ∀ L : List ByteArray, (L.Pairwise fun a b => bytesBefore a.data.toList b.data.toList = true) → (L.flatMap (quoN M)).Pairwise fun a b => bytesBefore (keyN a) (keyN b) = true
  | [], _ => by simp
  | q :: L, h => by
    obtain ⟨h1, h2⟩ := List.pairwise_cons.1 h
    rw [List.flatMap_cons, List.pairwise_append]
    refine ⟨?_, quo_sorted hM L h2, fun a ha b hb => ?_⟩
    · have := quoN_le M q
      match quoN M q, this with
      | [], _ => exact List.Pairwise.nil
      | [x], _ => exact List.pairwise_singleton _ _
      | x :: y :: r, hl => simp at hl
    · obtain ⟨e1, _⟩ := quoN_path hM ha
      obtain ⟨q2, hq2, hb2⟩ := List.mem_flatMap.1 hb
      obtain ⟨e2, _⟩ := quoN_path hM hb2
      unfold keyN
      rw [e1, e2]
      exact h1 q2 hq2

/-- The document's list. -/
def roverL (M : List (Key × Nd)) (s : ByteArray) : List Nd := (nds M).filter fun n => n.has && und s n.path
theorem rover_eq {M : List (Key × Nd)} (hM : MOk M) {s : ByteArray} (hv : vpath s = true) : roverL M s = overL M s := by
  have key : (roverL M s).map (fun n => (keyN n, n)) = (overL M s).map fun n => (keyN n, n) := by
    refine mem_ext_sorted ?_ ?_ fun x => ?_
    · unfold MSorted roverL nds
      rw [List.pairwise_map]
      refine List.Pairwise.filter _ ?_
      rw [List.pairwise_map]
      refine hM.sorted.imp_of_mem fun {a b} ha hb h => ?_
      show bytesBefore (keyN a.2) (keyN b.2) = true
      rw [← hM.key a ha, ← hM.key b hb]; exact h
    · unfold MSorted
      rw [List.pairwise_map]
      unfold overL
      rw [if_pos hv]
      exact quo_sorted hM _ (lineL_sorted hv)
    · simp only [List.mem_map]
      constructor
      · rintro ⟨n, hn, rfl⟩
        refine ⟨n, ?_, rfl⟩
        unfold roverL nds at hn
        obtain ⟨h1, h2⟩ := List.mem_filter.1 hn
        obtain ⟨y, hy, rfl⟩ := List.mem_map.1 h1
        simp only [Bool.and_eq_true] at h2
        have hg : mget M y.2.path.data.toList = some y.2 := mget_of_mem hM.sorted (by have := hM.key y hy; unfold keyN at this; rw [← this]; exact hy)
        unfold overL
        rw [if_pos hv]
        refine List.mem_flatMap.2 ⟨y.2.path, (lineL_und hv _).2 h2.2, ?_⟩
        unfold quoN
        rw [hg]
        simp [h2.1]
      · rintro ⟨n, hn, rfl⟩
        refine ⟨n, ?_, rfl⟩
        obtain ⟨h1, h2, h3⟩ := overL_there hM hn
        unfold roverL nds
        refine List.mem_filter.2 ⟨List.mem_map.2 ⟨_, mget_some_mem h1, rfl⟩, ?_⟩
        simp [h2, h3]
  have := congrArg (List.map (·.2)) key
  rw [List.map_map, List.map_map] at this
  exact (List.map_id _).symm.trans (this.trans (List.map_id _))

/-- The document's bound. -/
def aboveB (used more bound : Int) : Bool := if more ≤ 0 ∨ bound = -1 then false else decide (wrap64 (9223372036854775807 - more) < used) || decide (bound < wrap64 (used + more))
theorem above_pass {used more bound : Int} (hu : 0 ≤ used) (hu2 : used ≤ 9223372036854775807) (hm : more ≤ 9223372036854775807) (hb : -9223372036854775808 ≤ bound) (hb2 : bound ≤ 9223372036854775807) : aboveB used more bound = passB bound used more := by
  unfold aboveB passB
  by_cases h1 : more ≤ 0
  · rw [if_pos (.inl h1), decide_eq_false (show ¬ more > 0 by omega)]
    rfl
  · by_cases h2 : bound = -1
    · rw [if_pos (.inr h2), h2]
      simp
    · have h2' : (bound != -1) = true := by simpa using h2
      rw [if_neg (by rintro (h | h); exact h1 h; exact h2 h), decide_eq_true (show more > 0 by omega), h2', Bool.true_and, Bool.true_and, Bool.eq_iff_iff]
      simp only [Bool.or_eq_true, decide_eq_true_eq]
      unfold wrap64
      by_cases h3 : used > bound
      · exact ⟨fun _ => .inl h3, fun _ => by omega⟩
      · constructor
        · intro h; refine .inr ?_; omega
        · rintro (h | h)
          · exact absurd h h3
          · omega
end Go.Proofs.YthinpbdbhijbgaaGreatDoor
namespace Go.Proofs.YthinpbdbhijbgaaGreatDoor
open Go.RowKit Go.Sort
set_option maxHeartbeats 4000000
set_option maxRecDepth 100000

/-- A row of the call's own that shows these texts. -/
def TextsOut (L : List ByteArray) (w : World) (e : Ending) (w' : World) : Prop := ∃ v, e = .returned v ∧ w'.ownsRow w.heap.size 9 1 v L.length (L.map .string) ∧ Ext w w'
theorem texts_out {L : List ByteArray} {w w' : World} {e : Ending} (h : TextsOut L w e w') : ∃ a c, e = .returned (.slice a L.length c) ∧ StrsAt w'.heap.size w' a L ∧ Ext w w' := by
  obtain ⟨v, rfl, hown, hE⟩ := h
  have hO2' : w'.ownsRow w.heap.size 9 1 v (L.map fun p => p.data.toList).length ((L.map fun p => p.data.toList).map encStr) := by
    have e : L.map (encStr ∘ fun p => p.data.toList) = L.map Value.string := List.map_congr_left fun p _ => encStr_data p
    rw [List.length_map, List.map_map, e]
    exact hown
  obtain ⟨sa, sc, rfl, _, hstr⟩ := StrsAt.of_own hO2'
  have e : (L.map fun p => p.data.toList).map (fun k => (⟨k.toArray⟩ : ByteArray)) = L := by
    rw [List.map_map]
    exact (List.map_congr_left fun p _ => by simp).trans (List.map_id _)
  rw [e] at hstr
  exact ⟨sa, sc, by rw [List.length_map], hstr, hE⟩

theorem qOver_any (pv : Value) (M : List (Key × Nd)) (w : World) (hM : MOk M) (hG : GetsM pv M w) (s : ByteArray) (hs : s.size ≤ 9223372036854775800) :
    Calls Tryz.prog 63 #[pv, .string s] w (TextsOut ((overL M s).map (·.path)) w) := by
  have C1 := Lib.hid (qover_any pv M w hM hG s hs)
  have hle := overL_le M s
  clear hG
  generalize overL M s = L at *
  go_enter Tryz.func63, Tryz.ntmps63
  go_wp2_with fail
  refine C1.out.mono ?_
  rintro e W1 ⟨v, rfl, hown, hE1⟩
  obtain ⟨a, c, vs, rfl, _, _, hrows, _⟩ := hown.rows
  have HROWS := Lib.hid hrows
  have HE1 := Lib.hid hE1
  have hz1 := hE1.size
  clear C1 hown hrows hE1
  go_wp2
  go_loopw [5, 12] (fun lv i wr => ∃ k : Nat, k ≤ L.length ∧ i = .int .i64 k ∧ Hid (wr.ownsRow W1.heap.size 9 1 lv k ((L.take k).map fun n => .string n.path)) ∧ Ext W1 wr) (fun _ i _ => L.length - (intOf i).toNat)
  case atStart => exact ⟨0, Nat.zero_le _, rfl, World.ownsRow_nil _ _ _ _, Ext.refl _⟩
  case round =>
    obtain ⟨k, hk, rfl, HO, hE⟩ := hrel
    by_cases hlt : k < L.length
    · obtain ⟨bl, off, da, dc, aa, ac, ea, hSb, hc, hD, hA, _⟩ := HROWS.out.row (List.getElem?_eq_getElem hlt)
      subst ea
      have htk : (L.take (k + 1)).map (fun n => Value.string n.path) = (L.take k).map (fun n => Value.string n.path) ++ [.string L[k].path] := by rw [List.take_succ_eq_append_getElem hlt, List.map_append]; rfl
      generalize L[k] = n at *
      have hcw : ∀ j u, (ndC n (.slice da n.data.length dc) (.slice aa n.acl.length ac))[j]? = some u → wr.cell? ((⟨bl, off + k * 17, none⟩ : Addr).add j) = some u := fun j u hj => by
        rw [addr_add, hE.cell (p := ⟨bl, off + k * 17 + j, none⟩) hSb.2]; exact hc j u hj
      obtain ⟨X1, hX1⟩ : ∃ X1, X1 = wr.alloc (.cells (ndC n (.slice da n.data.length dc) (.slice aa n.acl.length ac)) 44) := ⟨_, rfl⟩
      have HSET1 := Lib.hid ((setRow_alloc wr zeroNd (ndC n (.slice da n.data.length dc) (.slice aa n.acl.length ac)) 44).trans hX1.symm)
      have HNEW1 := Lib.hid (heap_alloc_new wr (.cells zeroNd 44))
      have hEX1 : Ext wr X1 := by rw [hX1]; exact Ext.alloc _ _
      have hb1 : X1.heap[wr.heap.size]? = some (.cells (ndC n (.slice da n.data.length dc) (.slice aa n.acl.length ac)) 44 (0, 0)) := by rw [hX1]; exact heap_alloc_new wr _
      have hp : X1.cell? ⟨wr.heap.size, 0, none⟩ = some (.string n.path) := cell_of_row _ _ _ _ _ _ hb1
      have hO1 := HO.out.kept (grown_of_ext hEX1 none) (Classical.em _)
      have HC := Lib.hid hcw
      have HE := Lib.hid (hE.trans hEX1)
      have HTK := Lib.hid htk
      have hzr := hE.size
      have hzx := hEX1.size
      unfold ndC at HC HSET1
      unfold zeroNd at HSET1 HNEW1
      clear hcw hc hD hA hE htk hX1 hEX1 hb1 HO
      go_wp2_with (first | (refine wpList_load_at rfl 44 (.tmp 14) rfl _ rfl _ _ HC.out Tryz.underlying44 rfl sizeNd ?_) | (refine wpList_store_row rfl 44 (.tmp 7) (.tmp 15) rfl wr.heap.size _ rfl rfl 44 _ HNEW1.out sizeNd rfl (cells_node n da aa _ _ dc ac) ?_; rw [HSET1.out]) | (at_builtin; refine wpList_append_s rfl (.tmp 16) (.tmp 19) rfl W1.heap.size k _ _ hO1 (by omega) n.path (by omega) rfl rfl ?_))
      intro v' W6 hO6 hE6
      have HO6 := Lib.hid hO6
      have HE6 := Lib.hid (hE6 W1 HE.out (Nat.le_refl _))
      clear hO6 hE6 hO1 hp
      go_wp2
      go_roundw
      case rel => exact ⟨k + 1, by omega, by go_num, by unfold Hid; rw [HTK.out]; simpa [List.map_take] using HO6.out, HE6.out⟩
      case measure => simp [intOf]; omega
    · obtain rfl : k = L.length := by omega
      rw [List.take_length] at HO
      have hfin : TextsOut (L.map (·.path)) w (.returned u5) wr := ⟨_, rfl, by
        rw [List.length_map, List.map_map]
        exact ownsRow_base_a HO.out hz1, HE1.out.trans hE⟩
      have HFIN := Lib.hid hfin
      clear hfin hE HO
      go_wp2
      go_ret
      exact HFIN.out
end Go.Proofs.YthinpbdbhijbgaaGreatDoor
namespace Go.Proofs.YthinpbdbhijbgaaGreatDoor
open Go.RowKit Go.Sort
set_option maxHeartbeats 4000000
set_option maxRecDepth 100000

theorem rweigh_any (w : World) (b : Nat) (M : List (Key × Nd)) (hR : RT w b (nds M)) (hM : MOk M) (s : ByteArray) (hs : s.size ≤ 9223372036854775800) (hl : M.length * 168 ≤ 140737488355328) :
    Calls Tryz.prog 86 #[.pointer (some ⟨b, 0, none⟩), .string s] w (WeighOut M s w) := by
  have C1 := Lib.hid (rbelow_any w b M hR hM s hs hl)
  have HM := Lib.hid hM
  clear hR hM
  go_enter Tryz.func86, Tryz.ntmps86
  go_wp2_with fail
  refine C1.out.mono ?_
  rintro e w1 ⟨v, rfl, hown, hE1⟩
  obtain ⟨la, lc, vs, rfl, _, _, hrows, _⟩ := hown.rows
  clear C1 hown
  cases hg : mget M s.data.toList with
  | none =>
    have hfin : WeighOut M s w (.returned (.tuple #[.int .i64 0, .int .i64 0, .int .i64 70])) w1 := ⟨by rw [hg]; rfl, hE1⟩
    have HFIN := Lib.hid hfin
    have e0 : (nodesOf M (UndL M s)).length = 0 := by rw [UndL_none hg]; rfl
    rw [e0]
    clear hfin hg hrows hE1
    go_wp2
    go_ret3
    exact HFIN.out
  | some y =>
    have hU := UndL_some hg
    have hpos := und_self_mem HM.out hg
    rw [hU] at hrows ⊢
    generalize hks : undK M s = ks at *
    have hkl : ks.length ≤ M.length := by rw [← hks]; exact undK_length_le M s
    have hnl : (nodesOf M ks).length = ks.length := by unfold nodesOf; exact List.length_map _
    have hfin : WeighOut M s w (.returned (.tuple #[.int .i64 ks.length, .int .i64 (bytesK M ks), .int .i64 0])) w1 := ⟨by rw [hg, hks]; rfl, hE1⟩
    have HFIN := Lib.hid hfin
    have HROWS := Lib.hid hrows
    have hlp : ¬ ks.length = 0 := by omega
    have hlb : ((ks.length : Int) == 0) = false := by simp; exact fun e => hlp (by rw [e]; rfl)
    have hl64 : ks.length ≤ 9223372036854775807 := by omega
    rw [hnl]
    clear hfin hg hE1 hks hU hpos hrows
    go_wp2
    go_loopw [8, 9] (fun sm i wr => ∃ k : Nat, k ≤ ks.length ∧ i = .int .i64 k ∧ sm = .int .i64 (bytesK M (ks.take k)) ∧ wr = w1) (fun _ i _ => ks.length - (intOf i).toNat)
    case atStart => exact ⟨0, Nat.zero_le _, rfl, rfl, rfl⟩
    case round =>
      obtain ⟨k, hk, rfl, rfl, rfl⟩ := hrel
      by_cases hlt : k < ks.length
      · have hnk : (nodesOf M ks)[k]? = some ((mget M ks[k]).getD zeroN) := by unfold nodesOf; rw [List.getElem?_map, List.getElem?_eq_getElem hlt]; rfl
        obtain ⟨bl, off, da, dc, aa, ac, ea, hSb, hc, hD, hA, _⟩ := HROWS.out.row hnk
        subst ea
        have hsucc := bytesK_succ M ks k hlt
        have hle1 := bytesK_le HM.out (ks.take k)
        have hle2 := data_le HM.out ks[k]
        have hln : (ks.take k).length ≤ ks.length := by simp; omega
        generalize (mget M ks[k]).getD zeroN = n at *
        have c1 : wr.cell? ⟨bl, off + k * 17 + 1, none⟩ = some (.slice da n.data.length dc) := hc 1 _ rfl
        have HSC := Lib.hid hsucc
        have hb1 : (0 : Int) ≤ (bytesK M (ks.take k) : Int) + (n.data.length : Int) := by omega
        have hb2 : (bytesK M (ks.take k) : Int) + (n.data.length : Int) < 9223372036854775808 := by omega
        clear hc hD hA hsucc hnk
        go_wp2
        go_roundw
        case rel => exact ⟨k + 1, by omega, by go_num, by rw [HSC.out]; push_cast; go_num, by first | rfl | trivial⟩
        case measure => simp [intOf]; omega
      · obtain rfl : k = ks.length := by omega
        rw [List.take_length]
        go_wp2
        go_ret3
        exact HFIN.out
end Go.Proofs.YthinpbdbhijbgaaGreatDoor
namespace Go.Proofs.YthinpbdbhijbgaaGreatDoor
open Go.RowKit Go.Sort
set_option maxHeartbeats 4000000
set_option maxRecDepth 100000

def roverT (L : List Nd) (s : ByteArray) (k : Nat) : List ByteArray := ((L.take k).filter fun n => n.has && und s n.path).map (·.path)
theorem roverT_succ (L : List Nd) (s : ByteArray) (k : Nat) (hk : k < L.length) : roverT L s (k + 1) = roverT L s k ++ if (L[k].has && und s L[k].path) = true then [L[k].path] else [] := by
  unfold roverT
  rw [List.take_succ_eq_append_getElem hk, List.filter_append, List.map_append]
  congr 1
  by_cases h : (L[k].has && und s L[k].path) = true
  · rw [if_pos h]; simp [h]
  · rw [if_neg h]; simp only [List.filter_cons, h, List.filter_nil]; simp
theorem roverT_le (L : List Nd) (s : ByteArray) (k : Nat) : (roverT L s k).length ≤ k := by
  unfold roverT
  rw [List.length_map]
  refine Nat.le_trans (List.length_filter_le _ _) ?_
  rw [List.length_take]; omega

theorem rover_any (w : World) (b : Nat) (M : List (Key × Nd)) (hR : RT w b (nds M)) (hM : MOk M) (s : ByteArray) (hs : s.size ≤ 9223372036854775800) (hl : M.length * 168 ≤ 140737488355328) :
    Calls Tryz.prog 110 #[.pointer (some ⟨b, 0, none⟩), .string s] w (TextsOut ((overL M s).map (·.path)) w) := by
  have CV := rvalid_any s w hs
  cases hv : vpath s with
  | false =>
    rw [hv] at CV
    have hfin : ∀ W, Ext w W → TextsOut ((overL M s).map (·.path)) w (.returned (.slice none 0 0)) W := fun W hE => by
      unfold overL; rw [hv]; exact ⟨_, rfl, World.ownsRow_nil _ _ _ _, hE⟩
    have HFIN := Lib.hid hfin
    have CV := Lib.hid CV
    clear hfin hv hR
    go_enter Tryz.func110, Tryz.ntmps110
    go_wp2_with fail
    refine CV.out.mono ?_
    rintro e w1 ⟨rfl, hE1⟩
    clear CV
    go_wp2
    go_ret
    exact HFIN.out _ hE1
  | true =>
    rw [hv] at CV
    have CV := Lib.hid CV
    obtain ⟨a, cap, vs, hb, hlc, hcm, hS, hrows, _⟩ := hR
    have hcb : w.cell? ⟨b, 0, none⟩ = some (.slice a (nds M).length cap) := cell_of_row _ _ _ _ _ _ hb
    have hbl := (Array.getElem?_eq_some_iff.1 hb).1
    have hnl : (nds M).length ≤ 837723144972 := by rw [nds_length]; omega
    have hre : roverT (nds M) s (nds M).length = (overL M s).map (·.path) := by
      rw [← rover_eq hM hv]; unfold roverT roverL; rw [List.take_length]
    have hvp : ∀ n ∈ nds M, vpath n.path = true ∧ n.path.size ≤ 4096 := fun n hn => by
      obtain ⟨x, hx, rfl⟩ := List.mem_map.1 hn
      have := right_vpath (hM.right x hx)
      exact ⟨this, (vpath_facts this).2.1⟩
    generalize nds M = L at *
    have HROWS := Lib.hid hrows
    have HS := Lib.hid hS
    have HRE := Lib.hid hre
    have HVP := Lib.hid hvp
    have HV := Lib.hid hv
    clear hb hrows hS hM hlc hcm hre hvp hv
    go_enter Tryz.func110, Tryz.ntmps110
    go_wp2_with fail
    refine CV.out.mono ?_
    rintro e w1 ⟨rfl, hE1⟩
    have HE1 : Hid (Ext w w1) := hE1
    clear CV hE1
    go_wp2
    go_loopw [5, 6] (fun lv i wr => ∃ k : Nat, k ≤ L.length ∧ i = .int .i64 k ∧ Hid (wr.ownsRow w.heap.size 9 1 lv (roverT L s k).length ((roverT L s k).map .string)) ∧ Ext w wr) (fun _ i _ => L.length - (intOf i).toNat)
    case atStart => exact ⟨0, Nat.zero_le _, rfl, World.ownsRow_nil _ _ _ _, HE1.out⟩
    case round =>
      obtain ⟨k, hk, rfl, HO, hE⟩ := hrel
      have hcr : wr.cell? ⟨b, 0, none⟩ = some (.slice a L.length cap) := (hE.cell (p := ⟨b, 0, none⟩) hbl).trans hcb
      have hzr := hE.size
      by_cases hlt : k < L.length
      · obtain ⟨bl, off, da, dc, aa, ac, ea, hSb, hc, _⟩ := HROWS.out.row (List.getElem?_eq_getElem hlt)
        subst ea
        have hsucc := roverT_succ L s k hlt
        have hle := roverT_le L s k
        obtain ⟨hvn, hsn⟩ := HVP.out L[k] (List.getElem_mem hlt)
        generalize L[k] = n at *
        have c0 : wr.cell? ⟨bl, off + k * 17, none⟩ = some (.string n.path) := (hE.cell (p := ⟨bl, off + k * 17, none⟩) (HS.out bl hSb).1).trans (hc 0 _ rfl)
        have c14 : wr.cell? ⟨bl, off + k * 17 + 14, none⟩ = some (.bool n.has) := (hE.cell (p := ⟨bl, off + k * 17 + 14, none⟩) (HS.out bl hSb).1).trans (hc 14 _ rfl)
        have HSUCC := Lib.hid hsucc
        have HE := Lib.hid hE
        have CU := rund_any s n.path wr hs (by omega)
        rw [hvn, HV.out, Bool.true_and, Bool.true_and] at CU
        have CU := Lib.hid CU
        clear hc hE hsucc
        cases hh : n.has with
        | false =>
          rw [hh] at HSUCC c14
          have hst : roverT L s (k + 1) = roverT L s k := by rw [HSUCC.out]; simp
          have HST := Lib.hid hst
          clear hst CU hh
          go_wp2
          go_roundw
          case rel => exact ⟨k + 1, by omega, by go_num, by unfold Hid; rw [HST.out]; exact HO.out, HE.out⟩
          case measure => simp [intOf]; omega
        | true =>
          rw [hh] at HSUCC c14
          cases hu : und s n.path with
          | false =>
            rw [hu] at HSUCC CU
            have hst : roverT L s (k + 1) = roverT L s k := by rw [HSUCC.out]; simp
            have HST := Lib.hid hst
            clear hst hh hu
            go_wp2_with fail
            refine CU.out.mono ?_
            rintro e w2 ⟨rfl, hE2⟩
            have HE2 := Lib.hid (HE.out.trans hE2)
            have HO2 := Lib.hid (HO.out.kept (grown_of_ext hE2 none) (Classical.em _))
            clear CU hE2 hcr c0 c14
            go_wp2
            go_roundw
            case rel => exact ⟨k + 1, by omega, by go_num, by unfold Hid; rw [HST.out]; exact HO2.out, HE2.out⟩
            case measure => simp [intOf]; omega
          | true =>
            rw [hu] at HSUCC CU
            have hst : roverT L s (k + 1) = roverT L s k ++ [n.path] := by rw [HSUCC.out]; simp
            have HST := Lib.hid hst
            clear hst hh hu
            go_wp2_with fail
            refine CU.out.mono ?_
            rintro e w2 ⟨rfl, hE2⟩
            have hE2 : Ext wr w2 := hE2
            have hz2 := hE2.size
            have hO2 := HO.out.kept (grown_of_ext hE2 none) (Classical.em _)
            have hcr2 : w2.cell? ⟨b, 0, none⟩ = some (.slice (some ⟨bl, off, none⟩) L.length cap) := (hE2.cell (p := ⟨b, 0, none⟩) (World.block_lt_of_cell? _ _ hcr)).trans hcr
            have c02 : w2.cell? ⟨bl, off + k * 17, none⟩ = some (.string n.path) := (hE2.cell (p := ⟨bl, off + k * 17, none⟩) (World.block_lt_of_cell? _ _ c0)).trans c0
            have HE2 := Lib.hid (HE.out.trans hE2)
            clear CU hE2 hcr c0 c14
            go_wp2_with (at_builtin; refine wpList_append_s rfl (.tmp 44) (.tmp 53) rfl w.heap.size (roverT L s k).length _ _ hO2 (by omega) n.path (by omega) rfl rfl ?_)
            intro v' W6 hO6 hE6
            have HO6 := Lib.hid hO6
            have HE6 := Lib.hid (hE6 w HE2.out (Nat.le_refl _))
            clear hO6 hE6 hO2 hcr2 c02
            go_wp2
            go_roundw
            case rel => exact ⟨k + 1, by omega, by go_num, by unfold Hid; rw [HST.out]; simpa using HO6.out, HE6.out⟩
            case measure => simp [intOf]; omega
      · obtain rfl : k = L.length := by omega
        rw [HRE.out] at HO
        have HFIN := Lib.hid (show TextsOut ((overL M s).map (·.path)) w (.returned u5) wr from ⟨_, rfl, HO.out, hE⟩)
        clear hE HO HROWS
        go_wp2
        go_ret
        exact HFIN.out

theorem rabove_any (used more bound : Int) (w : World) : Calls Tryz.prog 161 #[.int .i64 used, .int .i64 more, .int .i64 bound] w fun e w' => e = .returned (.bool (aboveB used more bound)) ∧ w = w' := by
  by_cases h1 : more ≤ 0
  · have d1 : decide (more ≤ 0) = true := by simpa using h1
    have HP := Lib.hid (show aboveB used more bound = false by unfold aboveB; rw [if_pos (.inl h1)])
    go_enter Tryz.func161, Tryz.ntmps161
    go_wp2
    go_ret
    exact ⟨by rw [HP.out]; rfl, rfl⟩
  · have d1 : decide (more ≤ 0) = false := by simpa using h1
    by_cases h2 : bound = -1
    · have HP := Lib.hid (show aboveB used more bound = false by unfold aboveB; rw [if_pos (.inr h2)])
      subst h2
      go_enter Tryz.func161, Tryz.ntmps161
      go_wp2
      go_ret
      exact ⟨by rw [HP.out]; rfl, rfl⟩
    · have d2 : (bound == -1) = false := by simpa using h2
      have hp : aboveB used more bound = (decide (wrap64 (9223372036854775807 - more) < used) || decide (bound < wrap64 (used + more))) := by unfold aboveB; rw [if_neg (by rintro (h | h); exact h1 h; exact h2 h)]
      by_cases h3 : wrap64 (9223372036854775807 - more) < used
      · have d3 : decide (wrap64 (9223372036854775807 - more) < used) = true := by simpa using h3
        rw [d3] at hp
        have HP := Lib.hid hp
        clear hp
        go_enter Tryz.func161, Tryz.ntmps161
        go_wp2
        go_ret
        exact ⟨by rw [HP.out]; simp, rfl⟩
      · have d3 : decide (wrap64 (9223372036854775807 - more) < used) = false := by simpa using h3
        rw [d3] at hp
        by_cases h4 : bound < wrap64 (used + more)
        · have d4 : decide (bound < wrap64 (used + more)) = true := by simpa using h4
          rw [d4] at hp
          have HP := Lib.hid hp
          clear hp
          go_enter Tryz.func161, Tryz.ntmps161
          go_wp2
          go_ret
          exact ⟨by rw [HP.out]; simp, rfl⟩
        · have d4 : decide (bound < wrap64 (used + more)) = false := by simpa using h4
          rw [d4] at hp
          have HP := Lib.hid hp
          clear hp
          go_enter Tryz.func161, Tryz.ntmps161
          go_wp2
          go_ret
          exact ⟨by rw [HP.out]; simp, rfl⟩
end Go.Proofs.YthinpbdbhijbgaaGreatDoor
namespace Go.Proofs.YthinpbdbhijbgaaGreatDoor
open Go.RowKit Go.Sort
set_option maxHeartbeats 4000000
set_option maxRecDepth 100000

/-- A book's values are nodes and bytes. -/
def Pairs (m : List (Key × Value)) : Prop := ∀ x ∈ m, ∃ c b : Int, x.2 = .agg #[.int .i64 c, .int .i64 b]
theorem usedP_pairs (M : List (Key × Nd)) (L : List Nd) : Pairs (usedP M L) := fun x hx => by
  unfold usedP at hx
  obtain ⟨n, _, rfl⟩ := List.mem_map.1 hx
  exact ⟨_, _, rfl⟩
def usedAt (m : List (Key × Value)) (s : ByteArray) : Value := (mget m s.data.toList).getD (.agg zeroUsed)
theorem Pairs.at {m : List (Key × Value)} (h : Pairs m) (s : ByteArray) : ∃ c b : Int, usedAt m s = .agg #[.int .i64 c, .int .i64 b] := by
  unfold usedAt
  cases hg : mget m s.data.toList with
  | none => exact ⟨0, 0, rfl⟩
  | some v => exact h _ (mget_some_mem hg)

theorem qused_any (w : World) (bb bm : Nat) (m : List (Key × Value)) (hB : BookAt w bb bm m) (hv : Pairs m) (s : ByteArray) (hs : s.size ≤ maxLen) :
    Calls Tryz.prog 61 #[.pointer (some ⟨bb, 0, none⟩), .string s] w fun e w' => e = .returned (.tuple #[usedAt m s, .bool (mget m s.data.toList).isSome]) ∧ Ext w w' := by
  obtain ⟨c, b, hcb⟩ := hv.at s
  obtain ⟨W1, hW1⟩ : ∃ W1, W1 = w.alloc (.cells zeroUsed 107) := ⟨_, rfl⟩
  have hE1 : Ext w W1 := by rw [hW1]; exact Ext.alloc _ _
  have hz1 : W1.heap.size = w.heap.size + 1 := by rw [hW1]; simp
  have hr1 : W1.heap[w.heap.size]? = some (.cells zeroUsed 107 (0, 0)) := by rw [hW1]; exact heap_alloc_new w _
  obtain ⟨W2, hW2⟩ : ∃ W2, W2 = W1.alloc (.cells #[.int .i64 c, .int .i64 b] 107) := ⟨_, rfl⟩
  have hE2 : Ext W1 W2 := by rw [hW2]; exact Ext.alloc _ _
  have hr2 := (hE2.block w.heap.size (by omega)).trans hr1
  have hb2 : W2.heap[W1.heap.size]? = some (.cells #[.int .i64 c, .int .i64 b] 107 (0, 0)) := by rw [hW2]; exact heap_alloc_new W1 _
  have hB1 := hB.ext hE1
  have hbk : W1.cell? ⟨bb, 0, none⟩ = some (.map (some bm)) := cell_of_row _ _ _ _ _ _ hB1.1
  have hlk := SMap.look_ok (e := 107) hB1.2 strT Tryz.underlying163 (z := .agg zeroUsed) (by kernel_rfl) hs
  rw [show (mget m s.data.toList).getD (.agg zeroUsed) = .agg #[.int .i64 c, .int .i64 b] from hcb] at hlk
  have HSET := (setRow_alloc W1 zeroUsed #[.int .i64 c, .int .i64 b] 107).trans hW2.symm
  have HNew := heap_alloc_new W1 (.cells zeroUsed 107)
  have hr3 := setRow_heap W2 w.heap.size _ #[.int .i64 c, .int .i64 b] 107 (0, 0) hr2
  have hE3 : Ext w (W2.setRow w.heap.size #[.int .i64 c, .int .i64 b]) := (hE1.trans hE2).trans' ⟨rfl, rfl, rfl, by simp [World.setRow], fun k hk => setRow_other _ _ _ _ (by omega)⟩
  rw [hcb]
  generalize (mget m s.data.toList).isSome = th at *
  rw [hz1] at hb2
  have HB2 := Lib.hid hb2
  have HR2 := Lib.hid hr2
  have HR3 := Lib.hid hr3
  have HE3 := Lib.hid hE3
  unfold zeroUsed at HSET HNew HR2
  have hbk' := hbk
  have hlk' := hlk
  unfold zeroUsed at hW1
  rw [hW1] at HSET HNew hbk' hlk'
  rw [World.size_alloc] at HSET HNew
  have HSET := Lib.hid HSET
  have HNew := Lib.hid HNew
  clear hbk hlk hcb hW2 hb2 hr2 hr3 hE3 hB1 hB hr1 hE1 hE2 hW1
  go_enter Tryz.func61, Tryz.ntmps61
  go_wp2_with (first | (refine wpList_store_row rfl 107 (.tmp 6) (.tmp 18) rfl (w.heap.size + 1) _ rfl rfl 107 _ HNew.out sizeUsed rfl (by simp [Value.oneCell']) ?_; rw [HSET.out]) | (refine wpList_load_row rfl 107 (.tmp 6) rfl (w.heap.size + 1) rfl 107 _ (0, 0) _ HB2.out Tryz.underlying107 rfl sizeUsed ?_) | (refine wpList_store_row rfl 107 (.tmp 4) (.tmp 20) rfl w.heap.size _ rfl rfl 107 _ HR2.out sizeUsed rfl (by simp [Value.oneCell']) ?_))
  refine bodyPost_ret (v := .tuple #[.agg #[.int .i64 c, .int .i64 b], .bool th]) ?_ rfl ⟨rfl, HE3.out⟩
  exact results_cell_row2 (p := 4) (q := 5) (ty := 107) rfl _ _ w.heap.size 107 _ (0, 0) _ _ rfl rfl HR3.out Tryz.underlying107 rfl sizeUsed
end Go.Proofs.YthinpbdbhijbgaaGreatDoor
namespace Go.Proofs.YthinpbdbhijbgaaGreatDoor
open Go.RowKit Go.Sort
set_option maxHeartbeats 4000000
set_option maxRecDepth 100000

/-- A region's invariant: a row is stored by its operation k. -/
def StK (k : Nat) (W3 : World) (gs : Nat) (cs : Array Value) (d : Nat → Bool) (W : World) : Prop :=
  Chg (· = gs) W3 W ∧ W.heap[gs]? = some (.cells (if d k = true then cs else zeroStat) 139 (0, 0))
theorem StK.ext {k : Nat} {W3 : World} {gs : Nat} {cs : Array Value} {i : Nat} (hi : i ≠ k) (d d' : Nat → Bool) (w w' : World) (h : StK k W3 gs cs d w) (he : Ext w w') (hd : ∀ k, k ≠ i → d' k = d k) : StK k W3 gs cs d' w' := by
  obtain ⟨h1, h2⟩ := h
  refine ⟨h1.trans (Chg.of_ext (S := fun _ => False) he) (fun _ _ h => h.elim), ?_⟩
  rw [hd k (Ne.symm hi), he.block gs (Array.getElem?_eq_some_iff.1 h2).1]
  exact h2
end Go.Proofs.YthinpbdbhijbgaaGreatDoor
namespace Go.Proofs.YthinpbdbhijbgaaGreatDoor
open Go.RowKit Go.Sort
set_option maxHeartbeats 4000000
set_option maxRecDepth 100000

theorem rpasses_any (h : Bool) (qc qb uc ub dn db : Int) (w : World) : Calls Tryz.prog 111 #[.agg #[.bool h, .int .i64 qc, .int .i64 qb], .agg #[.int .i64 uc, .int .i64 ub], .int .i64 dn, .int .i64 db] w fun e w' => e = .returned (.bool (aboveB uc dn qc || aboveB ub db qb)) ∧ Ext w w' := by
  obtain ⟨W1, hW1⟩ : ∃ W1, W1 = w.alloc (.cells #[.bool h, .int .i64 qc, .int .i64 qb] 23) := ⟨_, rfl⟩
  obtain ⟨W2, hW2⟩ : ∃ W2, W2 = W1.alloc (.cells #[.int .i64 uc, .int .i64 ub] 175) := ⟨_, rfl⟩
  have hE1 : Ext w W1 := by rw [hW1]; exact Ext.alloc _ _
  have hE2 : Ext W1 W2 := by rw [hW2]; exact Ext.alloc _ _
  have hz1 : W1.heap.size = w.heap.size + 1 := by rw [hW1]; simp
  have g1 : W2.heap[w.heap.size]? = some (.cells #[.bool h, .int .i64 qc, .int .i64 qb] 23 (0, 0)) := (hE2.block _ (by omega)).trans (by rw [hW1]; exact heap_alloc_new w _)
  have g2 : W2.heap[w.heap.size + 1]? = some (.cells #[.int .i64 uc, .int .i64 ub] 175 (0, 0)) := by rw [hW2, ← hz1]; exact heap_alloc_new W1 _
  have a1 : W2.cell? ⟨w.heap.size, 1, none⟩ = some (.int .i64 qc) := cell_of_row _ _ _ _ _ _ g1
  have a2 : W2.cell? ⟨w.heap.size, 2, none⟩ = some (.int .i64 qb) := cell_of_row _ _ _ _ _ _ g1
  have b0 : W2.cell? ⟨w.heap.size + 1, 0, none⟩ = some (.int .i64 uc) := cell_of_row _ _ _ _ _ _ g2
  have b1 : W2.cell? ⟨w.heap.size + 1, 1, none⟩ = some (.int .i64 ub) := cell_of_row _ _ _ _ _ _ g2
  have CA := rabove_any uc dn qc W2
  have CB := rabove_any ub db qb W2
  have HE := Lib.hid (hE1.trans hE2)
  rw [hW2, hW1] at a1 a2 b0 b1 CA CB HE
  have CA := Lib.hid CA
  have CB := Lib.hid CB
  clear g1 g2 hE1 hE2 hz1 hW2 hW1
  clear W2 W1
  cases h1 : aboveB uc dn qc with
  | true =>
    rw [h1] at CA
    clear h1
    go_enter Tryz.func111, Tryz.ntmps111
    go_wp2_with fail
    refine CA.out.mono ?_
    rintro e w3 ⟨rfl, rfl⟩
    clear CA
    go_wp2
    go_ret
    exact ⟨by simp, HE.out⟩
  | false =>
    rw [h1] at CA
    clear h1
    generalize aboveB ub db qb = z at *
    go_enter Tryz.func111, Tryz.ntmps111
    go_wp2_with fail
    refine CA.out.mono ?_
    rintro e w3 ⟨rfl, rfl⟩
    clear CA
    go_wp2_with fail
    refine CB.out.mono ?_
    rintro e w4 ⟨rfl, rfl⟩
    clear CB
    go_wp2
    go_ret
    exact ⟨by simp, HE.out⟩

theorem sizeQ : (Tryz.prog.info? 23).map (·.size) = some 3 := by kernel_rfl
def rpassB (M : List (Key × Nd)) (dn db : Int) (n : Nd) : Bool := aboveB (undK M n.path).length dn n.count || aboveB (bytesK M (undK M n.path)) db n.bytes

theorem rExceeds_any (w : World) (b : Nat) (M : List (Key × Nd)) (hR : RT w b (nds M)) (hM : MOk M) (s : ByteArray) (hs : s.size ≤ 9223372036854775800) (hl : M.length * 168 ≤ 140737488355328) (dn db : Int) :
    Calls Tryz.prog 44 #[.pointer (some ⟨b, 0, none⟩), .string s, .int .i64 dn, .int .i64 db] w (ExcOut (rpassB M dn db) (overL M s) w) := by
  have C1 := Lib.hid ((rover_any w b M hR hM s hs hl).mono fun e w' h => texts_out h)
  have hle := overL_le M s
  have hth := fun n (h : n ∈ overL M s) => (overL_there hM h).1
  have CG := Lib.hid fun W t (h : Ext w W) (ht : t.size ≤ 9223372036854775800) => rget_any W b M (hR.ext h) hM t ht
  have CW := Lib.hid fun W t (h : Ext w W) (ht : t.size ≤ 9223372036854775800) => rweigh_any W b M (hR.ext h) hM t ht hl
  have hpp0 : ∀ n : Nd, rpassB M dn db n = (aboveB (undK M n.path).length dn n.count || aboveB (bytesK M (undK M n.path)) db n.bytes) := fun _ => rfl
  have HPP := Lib.hid hpp0
  clear hpp0
  have hsz := fun n (h : n ∈ overL M s) => (overL_fit hM h).path
  generalize rpassB M dn db = PP at *
  generalize overL M s = L at *
  have HTH := Lib.hid hth
  have HSZ := Lib.hid hsz
  clear hR hM hth hsz
  go_enter Tryz.func44, Tryz.ntmps44
  go_wp2_with fail
  refine C1.out.mono ?_
  rintro e W1 ⟨la, lc, rfl, hst, hE1⟩
  have HST := Lib.hid hst
  have HE1 := Lib.hid hE1
  rw [List.length_map]
  clear C1 hst hE1
  go_wp2
  go_loopw [11] (fun i wr => ∃ k : Nat, k ≤ L.length ∧ i = .int .i64 k ∧ Hid (L.find? PP = (L.drop k).find? PP) ∧ Ext W1 wr) (fun i _ => L.length - (intOf i).toNat)
  case atStart => exact ⟨0, Nat.zero_le _, rfl, rfl, Ext.refl _⟩
  case round =>
    obtain ⟨k, hk, rfl, HF, hE⟩ := hrel
    by_cases hlt : k < L.length
    · obtain ⟨b1, o1, rfl, hb1, hc1⟩ := HST.out k L[k].path (by rw [List.getElem?_map, List.getElem?_eq_getElem hlt]; rfl)
      have hskip := find_skip (P := PP) hlt
      have hhit := find_hit (P := PP) hlt
      have hmem := List.getElem_mem hlt
      have hP := HPP.out L[k]
      generalize L[k] = n at *
      have hgn := HTH.out n hmem
      have hsn := HSZ.out n hmem
      have c1 := (hE.cell (p := ⟨b1, o1 + k, none⟩) hb1).trans hc1
      have CG1 := CG.out wr n.path (HE1.out.trans hE) hsn
      unfold GetOut at CG1
      rw [hgn] at CG1
      simp only [Option.isSome_some, Option.getD_some] at CG1
      have CG1 := Lib.hid CG1
      have HE := Lib.hid hE
      have HHIT := Lib.hid hhit
      have HSKIP := Lib.hid hskip
      have HP := Lib.hid hP
      have HGN := Lib.hid hgn
      clear hE hc1 hskip hhit hmem hP hgn
      go_wp2_with fail
      refine CG1.out.mono ?_
      rintro e w3 ⟨v3, rfl, hv3, hE3⟩
      obtain ⟨d1, e1, a1, f1, X1, e0, hset1, hbx1, hEX1, hD1, hA1⟩ := box_node hv3 fun b hb => hb.2
      subst e0
      have hE13 : Ext wr X1 := Ext.trans hE3 hEX1
      have HSET1 := Lib.hid hset1
      have HNEW1 := Lib.hid (heap_alloc_new w3 (.cells zeroNd 44))
      have c2 := (hE13.cell (p := ⟨b1, o1 + k, none⟩) (World.block_lt_of_cell? _ _ c1)).trans c1
      have CW1 := CW.out X1 n.path (HE1.out.trans (HE.out.trans hE13)) hsn
      unfold WeighOut at CW1
      rw [HGN.out] at CW1
      simp only [Option.isSome_some, if_true] at CW1
      have CW1 := Lib.hid CW1
      have HB1 := Lib.hid hbx1
      have HE13 := Lib.hid (HE.out.trans hE13)
      unfold ndC at HSET1 ⊢
      unfold zeroNd at HSET1 HNEW1
      clear CG1 hv3 hE3 hset1 hbx1 hEX1 hD1 hA1 hE13 c1
      go_wp2_with (refine wpList_store_row rfl 44 (.tmp 12) (.tmp 33) rfl w3.heap.size _ rfl rfl 44 _ HNEW1.out sizeNd rfl (cells_node n d1 a1 _ _ e1 f1) ?_; rw [HSET1.out])
      refine CW1.out.mono ?_
      rintro e W4 ⟨rfl, hE4⟩
      have hE4 : Ext X1 W4 := hE4
      have hb4 := (hE4.block w3.heap.size (Array.getElem?_eq_some_iff.1 HB1.out).1).trans HB1.out
      have hq4 : ∀ j u, (#[.bool n.has, .int .i64 n.count, .int .i64 n.bytes] : Array Value)[j]? = some u → W4.cell? ((⟨w3.heap.size, 14, none⟩ : Addr).add j) = some u := fun j u hj => by
        rw [addr_add, cell_of_row _ _ _ _ _ _ hb4]
        match j, hj with
        | 0, hj => exact hj
        | 1, hj => exact hj
        | 2, hj => exact hj
        | j + 3, hj => simp at hj
      have c4 := (hE4.cell (p := ⟨b1, o1 + k, none⟩) (World.block_lt_of_cell? _ _ c2)).trans c2
      have CP := Lib.hid (rpasses_any n.has n.count n.bytes (undK M n.path).length (bytesK M (undK M n.path)) dn db W4)
      have HQ4 := Lib.hid hq4
      have HE4 := Lib.hid (HE13.out.trans hE4)
      clear CW1 hE4 hb4 hq4 c2 HB1 HSET1 HNEW1
      generalize ((undK M n.path).length : Int) = uc at *
      generalize (bytesK M (undK M n.path) : Int) = ub at *
      go_wp2_with (refine wpList_load_at rfl 23 (.tmp 45) rfl _ rfl _ _ HQ4.out Tryz.underlying23 rfl sizeQ ?_)
      refine CP.out.mono ?_
      rw [← HP.out]
      rintro e W5 ⟨rfl, hE5⟩
      have hE5 : Ext W4 W5 := hE5
      have c5 := (hE5.cell (p := ⟨b1, o1 + k, none⟩) (World.block_lt_of_cell? _ _ c4)).trans c4
      have HE5 := Lib.hid (HE4.out.trans hE5)
      clear CP hE5 c4 HQ4
      cases hpp : PP n with
      | true =>
        have hfin : ExcOut PP L w (.returned (.tuple #[.string n.path, .bool true])) W5 := ⟨by rw [HF.out, HHIT.out hpp], HE1.out.trans HE5.out⟩
        have HX := Lib.hid hfin
        clear hfin hpp
        go_wp2
        go_ret2
        exact HX.out
      | false =>
        have HF2 := Lib.hid (HF.out.trans (HSKIP.out hpp))
        clear hpp c5
        go_wp2
        go_roundw
        case rel => exact ⟨k + 1, by omega, by go_num, HF2.out, HE5.out⟩
        case measure => simp [intOf]; omega
    · obtain rfl : k = L.length := by omega
      have hfin : ExcOut PP L w (.returned (.tuple #[.string ⟨#[]⟩, .bool false])) wr := ⟨by rw [HF.out, List.drop_length]; rfl, HE1.out.trans hE⟩
      have HFIN := Lib.hid hfin
      clear hfin hE
      go_wp2
      go_ret2
      exact HFIN.out
end Go.Proofs.YthinpbdbhijbgaaGreatDoor
namespace Go.Proofs.YthinpbdbhijbgaaGreatDoor
open Go.RowKit Go.Maps Go.Sort Go.Shelf
set_option maxHeartbeats 4000000
set_option maxRecDepth 100000

theorem keysQ_any (mb : Option Nat) (W : World) : Calls Tryz.prog 159 #[.map mb] W fun e w' => e = .returned (.func (.func 197) #[] #[.pointer (some ⟨W.heap.size, 0, none⟩)]) ∧ w' = W.alloc (.cells #[.map mb] 163) :=
  (callsIn_wide (n := 5)).1 (AnyZ.keys_in Tryz.keysQ Fence.wide 5 trivial rfl mb W)

theorem sortedQ_own {H : Type} (b nn : Nat) (D0 : DataW H) (R : Value → Option (DataW H × List MemPlace)) (w : World) (hown : w.ownsMap Tryz.prog 9 R b nn D0) (hmax : Maps.size D0 ≤ maxLen) (hbytes : Maps.size D0 * 16 ≤ 140737488355328) :
    CallsIn Fence.wide 5 Tryz.prog 140 #[.func (.func 197) #[] #[.pointer (some ⟨w.heap.size, 0, none⟩)]] (w.alloc (.cells #[.map (some b)] 163)) fun e w' => ∃ (v : Value) (ss : List (List UInt8)), e = .returned v ∧ ss.Perm (strKeys D0) ∧
      w'.ownsRow (w.alloc (.cells #[.map (some b)] 163)).heap.size 9 1 v ss.length ((ss.mergeSort (fun x y => decide (x ≤ y))).map encStr) ∧ (v = .slice none 0 0 ↔ ss = []) ∧ Below (w.alloc (.cells #[.map (some b)] 163)).heap.size (w.alloc (.cells #[.map (some b)] 163)) w' := by
  have hbl := hown.lt
  have hseq : SeqGives Fence.wide 2 Tryz.prog 197 #[.pointer (some ⟨w.heap.size, 0, none⟩)] encStr (fun ss => ss.Perm (strKeys D0)) (Maps.size D0) (w.alloc (.cells #[.map (some b)] 163)) :=
    AnyZ.keys_gives (ρ := Tryz.keysQ_ren) { Tryz.keysQ with } Fence.wide _ trivial rfl (by omega) w.heap.size b nn D0 _ (by simp) (by simp) (by
      obtain ⟨es, clock, hb, Ft, hs, hD⟩ := hown
      exact ⟨es, clock, (Below.heap_alloc _ _ b hbl).trans hb, Ft, hs, hD⟩)
  exact AnyZ.sorted_in Tryz.sortedS Fence.wide 5 trivial trivial trivial trivial rfl (by omega) (sortsS _) (enters_of Tryz.func189 (by kernel_rfl) rfl) 197 #[.pointer (some ⟨w.heap.size, 0, none⟩)] trivial (enters_of Tryz.func197 (by kernel_rfl) rfl) _ _ hmax hbytes _ hseq

theorem sortedQ_any (b : Nat) (m : List (Key × Value)) (w : World) (h : SMap Tryz.prog 9 w b m) (hl : m.length * 16 ≤ 140737488355328) :
    Calls Tryz.prog 140 #[.func (.func 197) #[] #[.pointer (some ⟨w.heap.size, 0, none⟩)]] (w.alloc (.cells #[.map (some b)] 163)) (SortedOut (m.map (·.1)) (w.alloc (.cells #[.map (some b)] 163))) := by
  have hsz : Maps.size (kvD m) = m.length := by simp [kvD, Maps.size]
  have hk : strKeys (kvD m) = m.map (·.1) := by simp [kvD, strKeys, strOf]
  have hs : (m.map (·.1)).Pairwise fun a b => bytesBefore a b = true := by rw [List.pairwise_map]; exact SMap.sorted (Maps.string_keyed strT) h
  refine ((callsIn_wide (n := 5)).1 (sortedQ_own b _ (kvD m) Rv w h (by rw [hsz]; unfold maxLen; omega) (by rw [hsz]; exact hl))).mono fun e w' hq => ?_
  obtain ⟨v, ss, rfl, hp, hrow, hnil, hb⟩ := hq
  rw [hk] at hp
  rw [sortedKeys hs hp, hp.length_eq] at hrow
  exact ⟨v, rfl, hrow, hnil.trans ⟨fun e => by rw [e] at hp; exact hp.nil_eq.symm, fun e => by rw [e] at hp; exact hp.eq_nil⟩, hb⟩


theorem qlist_any (w : World) (bb bm : Nat) (m : List (Key × Value)) (hB : BookAt w bb bm m) (hl : m.length * 16 ≤ 140737488355328) :
    Calls Tryz.prog 106 #[.pointer (some ⟨bb, 0, none⟩)] w (SortedOut (m.map (·.1)) w) := by
  have C1 := Lib.hid (keysQ_any (some bm) w)
  have C2 := Lib.hid (sortedQ_any bm m w hB.2 hl)
  have hbk : w.cell? ⟨bb, 0, none⟩ = some (.map (some bm)) := cell_of_row _ _ _ _ _ _ hB.1
  clear hB
  go_enter Tryz.func106, Tryz.ntmps106
  go_wp2_with fail
  refine C1.out.mono ?_
  rintro e w1 ⟨rfl, rfl⟩
  clear C1
  go_wp2_with fail
  refine C2.out.mono ?_
  rintro e w2 ⟨v, rfl, hrow, hnil, hE⟩
  have hfin : SortedOut (m.map (·.1)) w (.returned v) w2 := ⟨v, rfl, ownsRow_base_a hrow (by simp), hnil, (Ext.alloc w _).trans hE⟩
  have HFIN := Lib.hid hfin
  clear C2 hrow hnil hE hfin
  go_wp2
  go_ret
  exact HFIN.out
end Go.Proofs.YthinpbdbhijbgaaGreatDoor
namespace Go.Proofs.YthinpbdbhijbgaaGreatDoor
open Go.RowKit Go.Sort
set_option maxHeartbeats 4000000
set_option maxRecDepth 100000

theorem infoEnt : (Tryz.prog.info? 177).map (fun i => (i.zero, i.size, i.bytes)) = some (some (.agg #[.string ⟨#[]⟩, .int .i64 0, .int .i64 0]), 3, 32) := by kernel_rfl
def entV (M : List (Key × Nd)) (n : Nd) : List Value := [.string n.path, .int .i64 (undK M n.path).length, .int .i64 (bytesK M (undK M n.path))]
theorem flat3 {α : Type} (f : α → List Value) (h3 : ∀ x, (f x).length = 3) : ∀ (L : List α) (i : Nat) (x : α), L[i]? = some x → ∀ j u, (f x)[j]? = some u → (L.flatMap f)[i * 3 + j]? = some u
  | [], i, x, h, _, _, _ => by simp at h
  | y :: L, 0, x, h, j, u, hj => by
    have e : y = x := by simpa using h
    subst e
    have hl := (List.getElem?_eq_some_iff.1 hj).1
    rw [List.flatMap_cons, List.getElem?_append_left (by omega), show 0 * 3 + j = j by omega]; exact hj
  | y :: L, i + 1, x, h, j, u, hj => by
    rw [List.flatMap_cons, List.getElem?_append_right (by rw [h3]; omega), h3, show (i + 1) * 3 + j - 3 = i * 3 + j by omega]
    exact flat3 f h3 L i x (by simpa using h) j u hj
/-- A slice that shows what is used at these nodes. -/
def EntsAt (M : List (Key × Nd)) (B : Nat) (w : World) (a : Option Addr) (L : List Nd) : Prop := ∀ i n, L[i]? = some n → ∃ b off, a = some ⟨b, off, none⟩ ∧ b < B ∧ ∀ j u, (entV M n)[j]? = some u → w.cell? ⟨b, off + i * 3 + j, none⟩ = some u
theorem EntsAt.ext {M : List (Key × Nd)} {w w' : World} {a : Option Addr} {L : List Nd} (h : EntsAt M w.heap.size w a L) (hE : Ext w w') : EntsAt M w'.heap.size w' a L := fun i n hi => by
  obtain ⟨b, off, e, hb, hc⟩ := h i n hi
  exact ⟨b, off, e, Nat.lt_of_lt_of_le hb hE.size, fun j u hj => (hE.cell (p := ⟨b, off + i * 3 + j, none⟩) hb).trans (hc j u hj)⟩
theorem EntsAt.of_own {M : List (Key × Nd)} {w : World} {base : Nat} {v : Value} {L : List Nd} (h : w.ownsRow base 177 3 v L.length (L.flatMap (entV M))) : ∃ a c, v = .slice a L.length c ∧ EntsAt M w.heap.size w a L := by
  obtain ⟨a, c, rfl, hc⟩ := ownsRow_cells h
  refine ⟨a, c, rfl, fun i n hi => ?_⟩
  obtain ⟨b, off, rfl, hb, _⟩ := hc (i * 3 + 0) _ (flat3 (entV M) (fun _ => rfl) L i n hi 0 _ rfl)
  refine ⟨b, off, rfl, hb, fun j u hj => ?_⟩
  obtain ⟨b', off', e, _, hcc⟩ := hc (i * 3 + j) _ (flat3 (entV M) (fun _ => rfl) L i n hi j u hj)
  simp only [Option.some.injEq, Addr.mk.injEq, and_true] at e
  rw [e.1, e.2, Nat.add_assoc]; exact hcc

theorem wpList_append_ent {M : List (Key × Nd)} {ops : Array Oper} {rest : List Oper} {o : Oper} {a : Act} {Q : Exit → Act → World → Prop} {W5 : World} (hgd : o.guard = none) (s x : Operand)
    (ho : o.op = .call { callee := .builtin .append, args := #[s, x], argTypes := #[173, 173] })
    (base n : Nat) (xs : List Value) (ov : Value) (hown : W5.ownsRow base 177 3 ov n xs) (hb : base ≤ W5.heap.size) (t : ByteArray) (c d : Int) (hl : (n + 1) * 32 ≤ 140737488355328)
    (hs : a.eval s = ov) (hx : a.eval x = .slice (some ⟨W5.heap.size, 0, none⟩) 1 1)
    (hK : ∀ v' W6, W6.ownsRow base 177 3 v' (n + 1) (xs ++ [.string t, .int .i64 c, .int .i64 d]) → (∀ w0, Ext w0 W5 → w0.heap.size ≤ base → Ext w0 W6) → wpList Tryz.prog ops Q rest (a.put o.dst v') W6) : wpList Tryz.prog ops Q (o :: rest) a (W5.alloc (.cells #[.string t, .int .i64 c, .int .i64 d] 177)) := by
  have hrow8 := hown.alloc (.cells #[.string t, .int .i64 c, .int .i64 d] 177)
  have hs1 : Cells (W5.alloc (.cells #[.string t, .int .i64 c, .int .i64 d] 177)).heap.size (W5.alloc (.cells #[.string t, .int .i64 c, .int .i64 d] 177)) (some ⟨W5.heap.size, 0, none⟩) [.string t, .int .i64 c, .int .i64 d] := fun j u hj => by
    refine ⟨_, 0, rfl, by simp, ?_⟩
    rw [Nat.zero_add, cell_of_row _ _ _ _ _ _ (heap_alloc_new W5 _)]
    simpa using hj
  have hsrc : Src Tryz.prog 3 173 (.slice (some ⟨W5.heap.size, 0, none⟩) 1 1) 1 [.string t, .int .i64 c, .int .i64 d] (W5.alloc (.cells #[.string t, .int .i64 c, .int .i64 d] 177)) := hs1.src Tryz.underlying173 1 1 (by simp) (fun u hu => by
    simp only [List.mem_cons, List.not_mem_nil, or_false] at hu
    rcases hu with rfl | rfl | rfl <;> rfl)
  obtain ⟨i0, hi, hz0, hz1', hz2'⟩ := info_parts infoEnt
  refine wpList_append_src _ hgd s x 173 173 ho base 177 i0 (.agg #[.string ⟨#[]⟩, .int .i64 0, .int .i64 0]) 3 32 Tryz.underlying173 hi hz0 hz1' hz2' rfl (by decide) ov n xs hs hrow8 _ 1 _ hx hsrc (by unfold maxLen; omega) hl (by simp; omega) ?_
  intro v' w9 hown9 hg9 _ _
  refine hK v' w9 hown9 fun w0 hE0 hb0 => ?_
  have hE8 : Ext w0 (W5.alloc (.cells #[.string t, .int .i64 c, .int .i64 d] 177)) := hE0.trans (Ext.alloc _ _)
  exact hE8.trans' ⟨hg9.os, hg9.tape, hg9.output, hg9.size, fun i hi => hg9.block i (Nat.lt_of_lt_of_le hi hE8.size) (fun e => by
    have := (hown.lt i e.symm).1
    omega)⟩

/-- The nodes with quotas, of the first ones. -/
def begT (L : List Nd) (k : Nat) : List Nd := (L.take k).filter (·.has)
theorem begT_succ (L : List Nd) (k : Nat) (hk : k < L.length) : begT L (k + 1) = begT L k ++ if L[k].has = true then [L[k]] else [] := by
  unfold begT
  rw [List.take_succ_eq_append_getElem hk, List.filter_append]
  congr 1
  by_cases h : L[k].has = true
  · rw [if_pos h, List.filter_cons_of_pos h]; rfl
  · rw [if_neg h, List.filter_cons_of_neg h]; rfl
theorem begT_le (L : List Nd) (k : Nat) : (begT L k).length ≤ k := by
  unfold begT
  refine Nat.le_trans (List.length_filter_le _ _) ?_
  rw [List.length_take]; omega
def begL (M : List (Key × Nd)) : List Nd := (nds M).filter (·.has)
def RBegOut (M : List (Key × Nd)) (w : World) (e : Ending) (w' : World) : Prop := ∃ a c, e = .returned (.slice a (begL M).length c) ∧ EntsAt M w'.heap.size w' a (begL M) ∧ Ext w w'

theorem rbegin_any (w : World) (b : Nat) (M : List (Key × Nd)) (hR : RT w b (nds M)) (hM : MOk M) (hl : M.length * 168 ≤ 140737488355328) :
    Calls Tryz.prog 105 #[.pointer (some ⟨b, 0, none⟩)] w (RBegOut M w) := by
  have CW := Lib.hid fun W t (h : Ext w W) (ht : t.size ≤ 9223372036854775800) => rweigh_any W b M (hR.ext h) hM t ht hl
  obtain ⟨a, cap, vs, hb, hlc, hcm, hS, hrows, _⟩ := hR
  have hcb : w.cell? ⟨b, 0, none⟩ = some (.slice a (nds M).length cap) := cell_of_row _ _ _ _ _ _ hb
  have hbl := (Array.getElem?_eq_some_iff.1 hb).1
  have hnl : (nds M).length ≤ 837723144972 := by rw [nds_length]; omega
  have hre : begT (nds M) (nds M).length = begL M := by unfold begT begL; rw [List.take_length]
  have hgt : ∀ n ∈ nds M, mget M n.path.data.toList = some n ∧ n.path.size ≤ 4096 := fun n hn => by
    obtain ⟨x, hx, rfl⟩ := List.mem_map.1 hn
    refine ⟨mget_of_mem hM.sorted (by have := hM.key x hx; unfold keyN at this; rw [← this]; exact hx), (vpath_facts (right_vpath (hM.right x hx))).2.1⟩
  generalize nds M = L at *
  have HROWS := Lib.hid hrows
  have HS := Lib.hid hS
  have HRE := Lib.hid hre
  have HGT := Lib.hid hgt
  clear hb hrows hS hM hlc hcm hre hgt
  go_enter Tryz.func105, Tryz.ntmps105
  go_wp2
  go_loopw [3, 4] (fun lv i wr => ∃ k : Nat, k ≤ L.length ∧ i = .int .i64 k ∧ Hid (wr.ownsRow w.heap.size 177 3 lv (begT L k).length ((begT L k).flatMap (entV M))) ∧ Ext w wr) (fun _ i _ => L.length - (intOf i).toNat)
  case atStart => exact ⟨0, Nat.zero_le _, rfl, World.ownsRow_nil _ _ _ _, Ext.refl _⟩
  case round =>
    obtain ⟨k, hk, rfl, HO, hE⟩ := hrel
    have hcr : wr.cell? ⟨b, 0, none⟩ = some (.slice a L.length cap) := (hE.cell (p := ⟨b, 0, none⟩) hbl).trans hcb
    have hzr := hE.size
    by_cases hlt : k < L.length
    · obtain ⟨bl, off, da, dc, aa, ac, ea, hSb, hc, _⟩ := HROWS.out.row (List.getElem?_eq_getElem hlt)
      subst ea
      have hsucc := begT_succ L k hlt
      have hle := begT_le L k
      obtain ⟨hgn, hsn⟩ := HGT.out L[k] (List.getElem_mem hlt)
      generalize L[k] = n at *
      have c0 : wr.cell? ⟨bl, off + k * 17, none⟩ = some (.string n.path) := (hE.cell (p := ⟨bl, off + k * 17, none⟩) (HS.out bl hSb).1).trans (hc 0 _ rfl)
      have c14 : wr.cell? ⟨bl, off + k * 17 + 14, none⟩ = some (.bool n.has) := (hE.cell (p := ⟨bl, off + k * 17 + 14, none⟩) (HS.out bl hSb).1).trans (hc 14 _ rfl)
      have HSUCC := Lib.hid hsucc
      have CW1 := CW.out wr n.path hE (by omega)
      unfold WeighOut at CW1
      rw [hgn] at CW1
      simp only [Option.isSome_some, if_true] at CW1
      have CW1 := Lib.hid CW1
      have HE := Lib.hid hE
      clear hc hE hsucc hgn
      cases hh : n.has with
      | false =>
        rw [hh] at HSUCC c14
        have hst : begT L (k + 1) = begT L k := by rw [HSUCC.out]; simp
        have HST := Lib.hid hst
        clear hst CW1 hh
        go_wp2
        go_roundw
        case rel => exact ⟨k + 1, by omega, by go_num, by unfold Hid; rw [HST.out]; exact HO.out, HE.out⟩
        case measure => simp [intOf]; omega
      | true =>
        rw [hh] at HSUCC c14
        have hst : begT L (k + 1) = begT L k ++ [n] := by rw [HSUCC.out]; simp
        have HST := Lib.hid hst
        clear hst hh
        have hev : entV M n = [.string n.path, .int .i64 (undK M n.path).length, .int .i64 (bytesK M (undK M n.path))] := rfl
        have HEV := Lib.hid hev
        clear hev
        generalize ((undK M n.path).length : Int) = uc at *
        generalize (bytesK M (undK M n.path) : Int) = ub at *
        go_wp2_with fail
        refine CW1.out.mono ?_
        rintro e w2 ⟨rfl, hE2⟩
        have hE2 : Ext wr w2 := hE2
        have hz2 := hE2.size
        have hO2 := HO.out.kept (grown_of_ext hE2 none) (Classical.em _)
        have hcr2 : w2.cell? ⟨b, 0, none⟩ = some (.slice (some ⟨bl, off, none⟩) L.length cap) := (hE2.cell (p := ⟨b, 0, none⟩) (World.block_lt_of_cell? _ _ hcr)).trans hcr
        have c02 : w2.cell? ⟨bl, off + k * 17, none⟩ = some (.string n.path) := (hE2.cell (p := ⟨bl, off + k * 17, none⟩) (World.block_lt_of_cell? _ _ c0)).trans c0
        have HE2 := Lib.hid (HE.out.trans hE2)
        clear CW1 hE2 hcr c0 c14
        go_wp2_with (at_builtin; refine wpList_append_ent (M := M) rfl (.tmp 44) (.tmp 57) rfl w.heap.size (begT L k).length _ _ hO2 (by omega) n.path uc ub (by omega) rfl rfl ?_)
        intro v' W6 hO6 hE6
        have hO6' : W6.ownsRow w.heap.size 177 3 v' (begT L (k + 1)).length ((begT L (k + 1)).flatMap (entV M)) := by
          rw [HST.out, List.length_append, List.flatMap_append, List.flatMap_singleton, HEV.out]
          exact hO6
        have HO6 := Lib.hid hO6'
        have HE6 := Lib.hid (hE6 w HE2.out (Nat.le_refl _))
        clear hO6 hO6' hE6 hO2 hcr2 c02
        go_wp2
        go_roundw
        case rel => exact ⟨k + 1, by omega, by go_num, HO6.out, HE6.out⟩
        case measure => simp [intOf]; omega
    · obtain rfl : k = L.length := by omega
      rw [HRE.out] at HO
      obtain ⟨oa, oc, rfl, hen⟩ := EntsAt.of_own HO.out
      have HFIN := Lib.hid (show RBegOut M w (.returned (.slice oa (begL M).length oc)) wr from ⟨oa, oc, rfl, hen, hE⟩)
      clear hE HO HROWS hen
      go_wp2
      go_ret
      exact HFIN.out

theorem usedL_keys (M : List (Key × Nd)) : (usedL M).map (·.1) = (begL M).map keyN := by unfold usedL usedP begL; rw [List.map_map]; rfl
theorem used_of {M : List (Key × Nd)} (hM : MOk M) {n : Nd} (h : n ∈ begL M) : mget (usedL M) n.path.data.toList = some (usedV M n) := by
  unfold begL nds at h
  obtain ⟨h1, h2⟩ := List.mem_filter.1 h
  refine mget_of_mem ?_ ?_
  · unfold MSorted usedL usedP
    rw [List.pairwise_map]
    refine List.Pairwise.filter _ ?_
    unfold nds
    rw [List.pairwise_map]
    exact hM.sorted.imp_of_mem fun {a b} ha hb h => by
      show bytesBefore (keyN a.2) (keyN b.2) = true
      rw [← hM.key a ha, ← hM.key b hb]; exact h
  · unfold usedL usedP nds
    exact List.mem_map.2 ⟨n, List.mem_filter.2 ⟨h1, h2⟩, rfl⟩

theorem same10_any (w : World) (bb bm : Nat) (M : List (Key × Nd)) (rv : Value) (hB : BookAt w bb bm (usedL M)) (hM : MOk M) (hl : M.length * 168 ≤ 140737488355328) (hR : ∀ W, Ext w W → Calls Tryz.prog 105 #[rv] W (RBegOut M W)) :
    Calls Tryz.prog 41 #[.pointer (some ⟨bb, 0, none⟩), rv] w fun e w' => e = .returned (.bool true) ∧ Ext w w' := by
  have C1 := Lib.hid (show Calls Tryz.prog 105 #[rv] w fun e w' => ∃ a c, e = .returned (.slice a (begL M).length c) ∧ EntsAt M w'.heap.size w' a (begL M) ∧ Ext w w' from hR w (Ext.refl _))
  have hbl : (begL M).length ≤ M.length := by
    have := List.length_filter_le (fun n : Nd => n.has) (nds M)
    rw [nds_length] at this; exact this
  have hul : (usedL M).length = (begL M).length := by
    have := congrArg List.length (usedL_keys M)
    rwa [List.length_map, List.length_map] at this
  have C2 := Lib.hid fun W (h : Ext w W) => (show Calls Tryz.prog 106 #[.pointer (some ⟨bb, 0, none⟩)] W fun e w' => ∃ a c, e = .returned (.slice a (begL M).length c) ∧ StrsAt w'.heap.size w' a ((begL M).map (·.path)) ∧ Ext W w' from by
    refine (qlist_any W bb bm (usedL M) (hB.ext h) (by omega)).mono ?_
    rintro e w' ⟨v, rfl, hrow, _, hE⟩
    rw [usedL_keys] at hrow
    obtain ⟨a, c, rfl, _, hs⟩ := StrsAt.of_own hrow
    rw [List.length_map]
    refine ⟨a, c, rfl, ?_, hE⟩
    rw [List.map_map] at hs
    have e : (begL M).map ((fun k : Key => (⟨k.toArray⟩ : ByteArray)) ∘ keyN) = (begL M).map (·.path) := List.map_congr_left fun n _ => by simp [keyN]
    rw [e] at hs
    exact hs)
  have CU := Lib.hid fun W (n : Nd) (h : Ext w W) (hn : n ∈ begL M) => (show Calls Tryz.prog 61 #[.pointer (some ⟨bb, 0, none⟩), .string n.path] W fun e w' => e = .returned (.tuple #[.agg #[.int .i64 (undK M n.path).length, .int .i64 (bytesK M (undK M n.path))], .bool true]) ∧ Ext W w' from by
    have hn' := hn
    unfold begL nds at hn'
    obtain ⟨x, hx, rfl⟩ := List.mem_map.1 (List.mem_filter.1 hn').1
    have hps := (vpath_facts (right_vpath (hM.right x hx))).2.1
    have := qused_any W bb bm (usedL M) (hB.ext h) (usedP_pairs _ _) x.2.path (by unfold maxLen; omega)
    unfold usedAt at this
    rw [used_of hM hn] at this
    exact this)
  have hent : ∀ n : Nd, entV M n = [.string n.path, .int .i64 (undK M n.path).length, .int .i64 (bytesK M (undK M n.path))] := fun _ => rfl
  have HENT := Lib.hid hent
  generalize begL M = L at *
  clear hR hB hM hent hul
  go_enter Tryz.func41, Tryz.ntmps41
  go_wp2_with fail
  refine C1.out.mono ?_
  rintro e W1 ⟨ea, ec, rfl, hen, hE1⟩
  have hE1 : Ext w W1 := hE1
  have HEN := Lib.hid hen
  have HE1 := Lib.hid hE1
  have CL := Lib.hid (C2.out W1 hE1)
  clear C1 C2 hen hE1
  go_wp2_with fail
  refine CL.out.mono ?_
  rintro e W2 ⟨sa, sc, rfl, hst, hE2⟩
  have hE2 : Ext W1 W2 := hE2
  have HST := Lib.hid hst
  have HEN2 := Lib.hid (HEN.out.ext hE2)
  have HE2 := Lib.hid (HE1.out.trans hE2)
  clear CL HEN hst hE2
  go_wp2
  go_loopw [7] (fun i wr => ∃ k : Nat, k ≤ L.length ∧ i = .int .i64 k ∧ Ext W2 wr) (fun i _ => L.length - (intOf i).toNat)
  case atStart => exact ⟨0, Nat.zero_le _, rfl, Ext.refl _⟩
  case round =>
    obtain ⟨k, hk, rfl, hE⟩ := hrel
    by_cases hlt : k < L.length
    · obtain ⟨b1, o1, rfl, hb1, hc1⟩ := HST.out k L[k].path (by rw [List.getElem?_map, List.getElem?_eq_getElem hlt]; rfl)
      obtain ⟨b2, o2, rfl, hb2, hc2⟩ := HEN2.out k L[k] (List.getElem?_eq_getElem hlt)
      have hmem := List.getElem_mem hlt
      generalize L[k] = n at *
      have CU1 := Lib.hid (CU.out wr n (HE2.out.trans hE) hmem)
      have s0 := (hE.cell (p := ⟨b1, o1 + k, none⟩) hb1).trans hc1
      have e0 := (hE.cell (p := ⟨b2, o2 + k * 3, none⟩) hb2).trans (hc2 0 _ (by rw [HENT.out]; rfl))
      have e1 := (hE.cell (p := ⟨b2, o2 + k * 3 + 1, none⟩) hb2).trans (hc2 1 _ (by rw [HENT.out]; rfl))
      have e2 := (hE.cell (p := ⟨b2, o2 + k * 3 + 2, none⟩) hb2).trans (hc2 2 _ (by rw [HENT.out]; rfl))
      have HE := Lib.hid hE
      generalize ((undK M n.path).length : Int) = uc at *
      generalize (bytesK M (undK M n.path) : Int) = ub at *
      clear hE hc1 hc2 hmem
      go_wp2_with fail
      refine CU1.out.mono ?_
      rintro e w3 ⟨rfl, hE3⟩
      have hE3 : Ext wr w3 := hE3
      obtain ⟨X3, hX3⟩ : ∃ X3, X3 = w3.alloc (.cells #[.int .i64 uc, .int .i64 ub] 107) := ⟨_, rfl⟩
      have HSET := Lib.hid ((setRow_alloc w3 zeroUsed #[.int .i64 uc, .int .i64 ub] 107).trans hX3.symm)
      have HNEW := Lib.hid (heap_alloc_new w3 (.cells zeroUsed 107))
      have hEX : Ext wr X3 := hE3.trans (by rw [hX3]; exact Ext.alloc _ _)
      have hb3 : X3.heap[w3.heap.size]? = some (.cells #[.int .i64 uc, .int .i64 ub] 107 (0, 0)) := by rw [hX3]; exact heap_alloc_new w3 _
      have u0 : X3.cell? ⟨w3.heap.size, 0, none⟩ = some (.int .i64 uc) := cell_of_row _ _ _ _ _ _ hb3
      have u1 : X3.cell? ⟨w3.heap.size, 1, none⟩ = some (.int .i64 ub) := cell_of_row _ _ _ _ _ _ hb3
      have q0 := (hEX.cell (p := ⟨b1, o1 + k, none⟩) (World.block_lt_of_cell? _ _ s0)).trans s0
      have q1 := (hEX.cell (p := ⟨b2, o2 + k * 3, none⟩) (World.block_lt_of_cell? _ _ e0)).trans e0
      have q2 := (hEX.cell (p := ⟨b2, o2 + k * 3 + 1, none⟩) (World.block_lt_of_cell? _ _ e1)).trans e1
      have q3 := (hEX.cell (p := ⟨b2, o2 + k * 3 + 2, none⟩) (World.block_lt_of_cell? _ _ e2)).trans e2
      have HE3 := Lib.hid (HE.out.trans hEX)
      unfold zeroUsed at HSET HNEW
      clear CU1 hE3 hX3 hEX hb3 s0 e0 e1 e2
      go_wp2_with (refine wpList_store_row rfl 107 (.tmp 8) (.tmp 33) rfl w3.heap.size _ rfl rfl 107 _ HNEW.out sizeUsed rfl (by simp [Value.oneCell']) ?_; rw [HSET.out])
      go_quiet (fail)
      go_wp2
      go_roundw
      case rel => exact ⟨k + 1, by omega, by go_num, HE3.out.trans' (below_drewN (Below.refl _ _) _)⟩
      case measure => simp [intOf]; omega
    · obtain rfl : k = L.length := by omega
      have HFIN : Hid (Ext w wr) := HE2.out.trans hE
      clear hE
      go_wp2
      go_ret
      exact ⟨rfl, HFIN.out⟩
end Go.Proofs.YthinpbdbhijbgaaGreatDoor
