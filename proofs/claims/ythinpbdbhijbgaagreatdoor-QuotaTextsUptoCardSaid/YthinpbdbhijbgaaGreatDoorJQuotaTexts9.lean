/- The walk of the law's Texts at two lists of the same texts. The walks of package quota's over and Over: the quotas over a path. The walks of package quota's passes, weigh, exceeds, Exceeds. The walk of package quota's Begin: what is used at the quotas of a tree. The walk of a quota book's Used. The walk of package quota's Over: the paths of the quotas over a path. The walks of arborlaw10's own, no, laid, sameTexts. -/
import Derived.Test.YthinpbdbhijbgaaGreatDoorJQuotaTexts8
import Derived.BigQuiet
import Derived.Test.YthinpbdbhijbgaaGreatDoorJQuotaTexts6
namespace Go.Proofs.YthinpbdbhijbgaaGreatDoor
open Go.RowKit Go.Sort
set_option maxHeartbeats 4000000
set_option maxRecDepth 100000

/-- A slice that shows these texts. -/
def StrsAt (B : Nat) (w : World) (a : Option Addr) (L : List ByteArray) : Prop := ∀ i s, L[i]? = some s → ∃ b off, a = some ⟨b, off, none⟩ ∧ b < B ∧ w.cell? ⟨b, off + i, none⟩ = some (.string s)
theorem StrsAt.ext {w w' : World} {a : Option Addr} {L : List ByteArray} (h : StrsAt w.heap.size w a L) (hE : Ext w w') : StrsAt w'.heap.size w' a L := fun i s hi => by
  obtain ⟨b, off, e, hb, hc⟩ := h i s hi
  exact ⟨b, off, e, Nat.lt_of_lt_of_le hb hE.size, (hE.cell (p := ⟨b, off + i, none⟩) hb).trans hc⟩
theorem StrsAt.of_own {w : World} {base : Nat} {v : Value} {ks : List Key} (h : w.ownsRow base 9 1 v ks.length (ks.map encStr)) : ∃ a c, v = .slice a ks.length c ∧ ks.length ≤ c ∧ StrsAt w.heap.size w a (ks.map fun k => ⟨k.toArray⟩) := by
  have h2 := h.2
  obtain ⟨a, c, rfl, hc⟩ := ownsRow_cells h
  refine ⟨a, c, rfl, ?_, fun i s hi => ?_⟩
  · rcases h2 with ⟨e, h0⟩ | ⟨g, cap, cur, e, _, _, hl, _⟩
    · omega
    · cases e; exact hl
  · rw [List.getElem?_map, Option.map_eq_some_iff] at hi
    obtain ⟨k, hk, rfl⟩ := hi
    obtain ⟨b, off, rfl, hb, hcc⟩ := hc i (encStr k) (by rw [List.getElem?_map, hk]; rfl)
    exact ⟨b, off, rfl, hb, hcc⟩

end Go.Proofs.YthinpbdbhijbgaaGreatDoor
namespace Go.Proofs.YthinpbdbhijbgaaGreatDoor
open Go.RowKit Go.Sort
set_option maxHeartbeats 4000000
set_option maxRecDepth 100000

theorem und_vpath {p q : ByteArray} (hp : vpath p = true) (h : und p q = true) : vpath q = true := undV_path p.size p (Nat.le_refl _) hp q h
theorem lineL_und {p : ByteArray} (hp : vpath p = true) (q : ByteArray) : q ∈ lineL p ↔ und p q = true := by
  rw [← upL_mem p.size p (Nat.le_refl _) hp q]
  unfold lineL
  simp only [List.mem_append, List.mem_reverse, List.mem_singleton]
  exact Or.comm
theorem lineL_vpath {p q : ByteArray} (hp : vpath p = true) (h : q ∈ lineL p) : vpath q = true := und_vpath hp ((lineL_und hp q).1 h)
theorem lineL_size {p q : ByteArray} (hp : vpath p = true) (h : q ∈ lineL p) : q.size ≤ 4096 := (vpath_facts (lineL_vpath hp h)).2.1
theorem lineL_length {p : ByteArray} (hp : vpath p = true) : (lineL p).length ≤ 4096 := by
  have h1 := upL_length p.size p (Nat.le_refl _) hp
  have h2 := vpath_facts hp
  unfold lineL
  simp only [List.length_append, List.length_reverse, List.length_cons, List.length_nil]
  omega
theorem quoN_le (M : List (Key × Nd)) (q : ByteArray) : (quoN M q).length ≤ 1 := by
  unfold quoN
  split
  · split
    · exact Nat.le_refl _
    · exact Nat.zero_le _
  · exact Nat.zero_le _
theorem quo_le (M : List (Key × Nd)) : ∀ L : List ByteArray, (L.flatMap (quoN M)).length ≤ L.length
  | [] => Nat.zero_le _
  | q :: L => by
    have h1 := quoN_le M q
    have h2 := quo_le M L
    rw [List.flatMap_cons, List.length_append, List.length_cons]
    omega
theorem quo_take (M : List (Key × Nd)) (L : List ByteArray) (k : Nat) (hk : k < L.length) : (L.take (k + 1)).flatMap (quoN M) = (L.take k).flatMap (quoN M) ++ quoN M L[k] := by
  rw [List.take_succ_eq_append_getElem hk, List.flatMap_append]
  simp
theorem overL_le (M : List (Key × Nd)) (s : ByteArray) : (overL M s).length ≤ 4096 := by
  unfold overL
  split
  · rename_i h
    exact Nat.le_trans (quo_le M _) (lineL_length h)
  · exact Nat.zero_le _
theorem overL_there {M : List (Key × Nd)} (hM : MOk M) {s : ByteArray} {n : Nd} (h : n ∈ overL M s) : mget M n.path.data.toList = some n ∧ n.has = true ∧ und s n.path = true := by
  unfold overL at h
  split at h
  · rename_i hv
    obtain ⟨q, hq, hn⟩ := List.mem_flatMap.1 h
    unfold quoN at hn
    split at hn
    · rename_i m hm
      split at hn
      · rename_i hh
        simp only [List.mem_singleton] at hn
        subst hn
        have hp : n.path = q := (ba_ext (hM.at hm).1).symm
        rw [hp]
        exact ⟨hm, hh, (lineL_und hv q).1 hq⟩
      · simp at hn
    · simp at hn
  · simp at h
/-- What Get answers, whatever the tree. -/
def GetsM (pv : Value) (M : List (Key × Nd)) (w : World) : Prop := ∀ W (t : ByteArray), Ext w W → t.size ≤ 9223372036854775800 → Calls Tryz.prog 54 #[pv, .string t] W (GetOut M t W)
theorem GetsM.of_tree {S : Nat → Prop} {w : World} {bt : Nat} {M : List (Key × Nd)} {N : Nat} (hT : TreeAt S w bt M N) : GetsM (.pointer (some ⟨bt, 0, none⟩)) M w := fun W t hE ht => tget_any S W bt M N (hT.ext hE) t (by unfold maxLen; omega)
theorem GetsM.nil (w : World) : GetsM (.pointer none) [] w := fun W t _ _ => (tget_nil t W).mono fun e w' h => ⟨_, h.1, zeroN_nds _ _, h.2⟩

theorem qover_any (pv : Value) (M : List (Key × Nd)) (w : World) (hM : MOk M) (hG : GetsM pv M w) (s : ByteArray) (hs : s.size ≤ 9223372036854775800) :
    Calls Tryz.prog 135 #[pv, .string s] w (NodesOut (overL M s) w) := by
  have C1 := Lib.hid (above_any s w hs)
  have HM := Lib.hid hM
  have HG := Lib.hid hG
  clear hM hG
  go_enter Tryz.func135, Tryz.ntmps135
  go_wp2_with fail
  refine C1.out.mono ?_
  rintro e w1 ⟨v, rfl, hv, hE1⟩
  cases hvp : vpath s with
  | false =>
    rw [hvp] at hv
    have hv : v = .slice none 0 0 := hv
    subst hv
    have hfin : NodesOut (overL M s) w (.returned (.slice none 0 0)) w1 := by
      unfold overL
      rw [hvp]
      exact ⟨_, rfl, OwnN.nil _ _, hE1⟩
    have HFIN := Lib.hid hfin
    clear hfin hE1 hvp C1
    go_wp2
    go_ret
    exact HFIN.out
  | true =>
    rw [hvp] at hv
    have hv : w1.ownsRow w.heap.size 9 1 v (upL s).length ((upL s).reverse.map .string) := hv
    have hlen := lineL_length hvp
    have hll : (lineL s).length = (upL s).length + 1 := by unfold lineL; simp
    have hov : overL M s = (lineL s).flatMap (quoN M) := by unfold overL; rw [hvp]; rfl
    have hsz := fun q (h : q ∈ lineL s) => lineL_size hvp h
    have HOV := Lib.hid hov
    have HSZ := Lib.hid hsz
    have HE1 := Lib.hid hE1
    have hz1 := hE1.size
    clear hE1 hvp C1 hov hsz
    go_wp2_with (at_builtin; refine wpList_append_s rfl (.tmp 19) (.tmp 21) rfl w.heap.size (upL s).length _ _ hv hz1 s (by omega) rfl rfl ?_)
    intro v2 W2 hO2 hE2
    have hE2 := hE2 w HE1.out (Nat.le_refl _)
    have hO2' : W2.ownsRow w.heap.size 9 1 v2 ((lineL s).map fun p => p.data.toList).length (((lineL s).map fun p => p.data.toList).map encStr) := by
      rw [List.length_map, hll, List.map_map]
      have e : (lineL s).map (encStr ∘ fun p => p.data.toList) = (upL s).reverse.map Value.string ++ [.string s] := by
        rw [List.map_congr_left (g := Value.string) fun p _ => encStr_data p]
        unfold lineL
        rw [List.map_append]; rfl
      rw [e, List.map_reverse]; exact hO2
    obtain ⟨sa, sc, rfl, _, hstr⟩ := StrsAt.of_own hO2'
    have hstr2 : StrsAt W2.heap.size W2 sa (lineL s) := by
      have e : ((lineL s).map fun p => p.data.toList).map (fun k => (⟨k.toArray⟩ : ByteArray)) = lineL s := by
        rw [List.map_map]
        exact (List.map_congr_left fun p _ => by simp).trans (List.map_id _)
      rw [e] at hstr; exact hstr
    rw [List.length_map]
    have HSTR := Lib.hid hstr2
    have HE2 := Lib.hid hE2
    generalize lineL s = L at *
    clear hO2 hO2' hstr hstr2 hE2 hv hll
    go_wp2
    go_loopw [7, 24] (fun lv i wr => ∃ k : Nat, k ≤ L.length ∧ i = .int .i64 k ∧ Hid (OwnN W2.heap.size ((L.take k).flatMap (quoN M)) lv wr) ∧ Ext W2 wr) (fun _ i _ => L.length - (intOf i).toNat)
    case atStart => exact ⟨0, Nat.zero_le _, rfl, OwnN.nil _ _, Ext.refl _⟩
    case round =>
      obtain ⟨k, hk, rfl, HO, hE⟩ := hrel
      by_cases hlt : k < L.length
      · obtain ⟨b, off, rfl, hb, hc⟩ := HSTR.out k L[k] (List.getElem?_eq_getElem hlt)
        have hq := HSZ.out L[k] (List.getElem_mem hlt)
        have htk := quo_take M L k hlt
        have hcr := (hE.cell (p := ⟨b, off + k, none⟩) hb).trans hc
        have hql := Nat.le_trans (quo_le M (L.take k)) (show (L.take k).length ≤ k by rw [List.length_take]; omega)
        generalize L[k] = q at *
        have CG := Lib.hid (HG.out wr q (HE2.out.trans hE) (by omega))
        have hquo : quoN M q = match mget M q.data.toList with | some n => if n.has = true then [n] else [] | none => [] := rfl
        have HTK := Lib.hid htk
        have HQ := Lib.hid hquo
        have HE := Lib.hid hE
        clear hc hE htk hquo
        go_wp2_with fail
        refine CG.out.mono ?_
        rintro e w3 ⟨v3, rfl, hv3, hE3⟩
        obtain ⟨d1, e1, a1, f1, X1, e0, hset1, hbx1, hEX1, hD1, hA1⟩ := box_node hv3 fun b hb => hb.2
        subst e0
        have hE3 : Ext wr w3 := hE3
        have hE13 := hE3.trans hEX1
        have HV3 := Lib.hid hv3
        have HSET1 := Lib.hid hset1
        have HNEW1 := Lib.hid (heap_alloc_new w3 (.cells zeroNd 44))
        have HB1 := Lib.hid hbx1
        have HE13 := Lib.hid hE13
        have HX1 := Lib.hid hEX1
        have hz3 := hE3.size
        have hzX := hEX1.size
        generalize hn : (mget M q.data.toList).getD zeroN = n at *
        have hx : Box X1 w3.heap.size (ndC n (.slice d1 n.data.length e1) (.slice a1 n.acl.length f1)) := fun j => cell_of_row _ _ _ _ _ _ HB1.out
        have hh : X1.cell? ⟨w3.heap.size, 14, none⟩ = some (.bool n.has) := hx 14
        clear CG hv3 hset1 hbx1 hEX1 hD1 hA1 hE3 hE13 hx hcr
        unfold ndC at HSET1 HB1 ⊢
        unfold zeroNd at HSET1 HNEW1
        cases hg : mget M q.data.toList with
        | none =>
          have hst : (L.take (k + 1)).flatMap (quoN M) = (L.take k).flatMap (quoN M) := by rw [HTK.out, HQ.out, hg]; simp
          have HST := Lib.hid hst
          clear hst hg hn
          go_wp2_with (refine wpList_store_row rfl 44 (.tmp 10) (.tmp 32) rfl w3.heap.size _ rfl rfl 44 _ HNEW1.out sizeNd rfl (cells_node n d1 a1 _ _ e1 f1) ?_; rw [HSET1.out])
          go_roundw
          case rel => exact ⟨k + 1, by omega, by go_num, by unfold Hid; rw [HST.out]; exact HO.out.ext HE13.out, HE.out.trans HE13.out⟩
          case measure => simp [intOf]; omega
        | some y =>
          have hny : n = y := by rw [hg] at hn; exact hn.symm
          subst hny
          cases hhas : n.has with
          | false =>
            rw [hhas] at hh
            have hst : (L.take (k + 1)).flatMap (quoN M) = (L.take k).flatMap (quoN M) := by rw [HTK.out, HQ.out, hg]; simp [hhas]
            have HST := Lib.hid hst
            rw [hhas] at HSET1 HB1
            clear hst hg hn
            go_wp2_with (refine wpList_store_row rfl 44 (.tmp 10) (.tmp 32) rfl w3.heap.size _ rfl rfl 44 _ HNEW1.out sizeNd rfl (by have := cells_node n d1 a1 n.data.length n.acl.length e1 f1; unfold ndC at this; rw [hhas] at this; exact this) ?_; rw [HSET1.out])
            go_roundw
            case rel => exact ⟨k + 1, by omega, by go_num, by unfold Hid; rw [HST.out]; exact HO.out.ext HE13.out, HE.out.trans HE13.out⟩
            case measure => simp [intOf]; omega
          | true =>
            rw [hhas] at hh
            have hst : (L.take (k + 1)).flatMap (quoN M) = (L.take k).flatMap (quoN M) ++ [n] := by rw [HTK.out, HQ.out, hg]; simp [hhas]
            have HST := Lib.hid hst
            have hnew : NdS (fun j => wr.heap.size ≤ j ∧ j < X1.heap.size) X1 (.agg (ndC n (.slice d1 n.data.length e1) (.slice a1 n.acl.length f1))) n := NdS.imp HV3.out (fun j hj => ⟨hj.1, Nat.lt_of_lt_of_le hj.2 hzX⟩) fun b o u hb hu => cell_ext HX1.out b o u hu
            have HNW := Lib.hid hnew
            have hbz : W2.heap.size ≤ wr.heap.size := HE.out.size
            have hlq : (((L.take k).flatMap (quoN M)).length + 1) * 168 ≤ 140737488355328 := by omega
            rw [hhas] at HSET1 HB1
            unfold ndC at HNW
            rw [hhas] at HNW
            clear hst hg hn hnew
            go_wp2_with (first | (refine wpList_store_row rfl 44 (.tmp 10) (.tmp 32) rfl w3.heap.size _ rfl rfl 44 _ HNEW1.out sizeNd rfl (by have := cells_node n d1 a1 n.data.length n.acl.length e1 f1; unfold ndC at this; rw [hhas] at this; exact this) ?_; rw [HSET1.out]) | (refine wpList_load_row rfl 44 (.tmp 10) rfl w3.heap.size rfl 44 _ (0, 0) _ HB1.out Tryz.underlying44 rfl sizeNd ?_) | (at_builtin; refine wpList_append_nd rfl (.tmp 40) (.tmp 42) rfl W2.heap.size ((L.take k).flatMap (quoN M)) _ HO.out HE13.out hbz n _ HNW.out hlq rfl rfl ?_))
            intro v' W6 hO6 hE6
            have HO6 := Lib.hid hO6
            have HE6 := Lib.hid (hE6 W2 (HE.out.trans HE13.out) (Nat.le_refl _))
            clear hO6 hE6 HNW
            go_wp2
            go_roundw
            case rel => exact ⟨k + 1, by omega, by go_num, by unfold Hid; rw [HST.out]; exact HO6.out, HE6.out⟩
            case measure => simp [intOf]; omega
      · obtain rfl : k = L.length := by omega
        rw [List.take_length] at HO
        have hfin : NodesOut (overL M s) w (.returned u7) wr := ⟨_, rfl, by rw [HOV.out]; exact HO.out.base HE2.out.size, HE2.out.trans hE⟩
        have HFIN := Lib.hid hfin
        clear hfin hE HO
        go_wp2
        go_ret
        exact HFIN.out
end Go.Proofs.YthinpbdbhijbgaaGreatDoor
namespace Go.Proofs.YthinpbdbhijbgaaGreatDoor
open Go.RowKit Go.Sort
set_option maxHeartbeats 4000000
set_option maxRecDepth 100000

theorem passes_any (bound used more : Int) (w : World) : Calls Tryz.prog 160 #[.int .i64 bound, .int .i64 used, .int .i64 more] w fun e w' => e = .returned (.bool (passB bound used more)) ∧ w = w' := by
  have hp : passB bound used more = (decide (0 < more) && bound != -1 && (decide (bound < used) || decide (wrap64 (bound - used) < more))) := rfl
  have HP := Lib.hid hp
  clear hp
  by_cases h1 : 0 < more
  · have d1 : decide (0 < more) = true := by simpa using h1
    rw [d1] at HP
    by_cases h2 : bound = -1
    · have d2 : (bound != -1) = false := by simpa using h2
      rw [d2] at HP
      subst h2
      clear d2
      go_enter Tryz.func160, Tryz.ntmps160
      go_wp2
      go_ret
      exact ⟨by rw [HP.out]; simp, rfl⟩
    · have d2 : (bound != -1) = true := by simpa using h2
      have d2' : (bound == -1) = false := by simpa using h2
      rw [d2] at HP
      by_cases h3 : bound < used
      · have d3 : decide (bound < used) = true := by simpa using h3
        rw [d3] at HP
        go_enter Tryz.func160, Tryz.ntmps160
        go_wp2
        go_ret
        exact ⟨by rw [HP.out]; simp, rfl⟩
      · have d3 : decide (bound < used) = false := by simpa using h3
        rw [d3] at HP
        by_cases h4 : wrap64 (bound - used) < more
        · have d4 : decide (wrap64 (bound - used) < more) = true := by simpa using h4
          rw [d4] at HP
          go_enter Tryz.func160, Tryz.ntmps160
          go_wp2
          go_ret
          exact ⟨by rw [HP.out]; simp, rfl⟩
        · have d4 : decide (wrap64 (bound - used) < more) = false := by simpa using h4
          rw [d4] at HP
          go_enter Tryz.func160, Tryz.ntmps160
          go_wp2
          go_ret
          exact ⟨by rw [HP.out]; simp, rfl⟩
  · have d1 : decide (0 < more) = false := by simpa using h1
    rw [d1] at HP
    go_enter Tryz.func160, Tryz.ntmps160
    go_wp2
    go_ret
    exact ⟨by rw [HP.out]; simp, rfl⟩

theorem sizeUsed : (Tryz.prog.info? 107).map (·.size) = some 2 := by kernel_rfl
def zeroUsed : Array Value := #[.int .i64 0, .int .i64 0]
def WeighF (x : Nat) : Value := .func (.func 156) #[] #[.pointer (some ⟨x, 0, none⟩)]
theorem qweigh_any (pv : Value) (hpv : ∃ po, pv = .pointer po) (w : World) : Calls Tryz.prog 100 #[pv] w fun e w' => ∃ x, e = .returned (WeighF x) ∧ w'.cell? ⟨x, 0, none⟩ = some pv ∧ w.heap.size ≤ x ∧ Ext w w' := by
  obtain ⟨po, rfl⟩ := hpv
  have hc : (w.alloc (.cells #[.pointer po] 37)).cell? ⟨w.heap.size, 0, none⟩ = some (.pointer po) := cell_of_row _ _ _ _ _ _ (heap_alloc_new w _)
  have HFIN := Lib.hid (And.intro hc (And.intro (Nat.le_refl w.heap.size) (Ext.alloc w (.cells #[.pointer po] 37))))
  clear hc
  go_enter Tryz.func100, Tryz.ntmps100
  go_wp2
  go_ret
  exact ⟨_, rfl, HFIN.out⟩

theorem qweigh1_any (x : Nat) (pv : Value) (q : ByteArray) (c b z : Int) (w : World) (hx : w.cell? ⟨x, 0, none⟩ = some pv) (hW : ∀ W, Ext w W → Calls Tryz.prog 85 #[pv, .string q] W fun e w' => e = .returned (.tuple #[.int .i64 c, .int .i64 b, .int .i64 z]) ∧ Ext W w') :
    Calls Tryz.prog 156 #[.string q, .pointer (some ⟨x, 0, none⟩)] w fun e w' => e = .returned (.agg #[.int .i64 c, .int .i64 b]) ∧ Ext w w' := by
  obtain ⟨W1, hW1⟩ : ∃ W1, W1 = w.alloc (.cells zeroUsed 107) := ⟨_, rfl⟩
  have hE1 : Ext w W1 := by rw [hW1]; exact Ext.alloc _ _
  have hr1 : W1.heap[w.heap.size]? = some (.cells zeroUsed 107 (0, 0)) := by rw [hW1]; exact heap_alloc_new w _
  have hx1 : (w.alloc (.cells zeroUsed 107)).cell? ⟨x, 0, none⟩ = some pv := by rw [← hW1]; exact (hE1.cell (p := ⟨x, 0, none⟩) (World.block_lt_of_cell? _ _ hx)).trans hx
  have CW := Lib.hid (hW W1 hE1)
  have HW1 := Lib.hid hW1
  have HR1 := Lib.hid hr1
  have HE1 := Lib.hid hE1
  unfold zeroUsed at HW1 hx1
  clear hW1 hr1 hE1 hW hx
  go_enter Tryz.func156, Tryz.ntmps156
  go_wp2_with fail
  rw [← HW1.out]
  refine CW.out.mono ?_
  rintro e W2 ⟨rfl, hE2⟩
  have hE2 : Ext W1 W2 := hE2
  have hr2 := (hE2.block w.heap.size (Array.getElem?_eq_some_iff.1 HR1.out).1).trans HR1.out
  have hr3 := setRow_heap W2 w.heap.size _ #[.int .i64 c, .int .i64 b] 107 (0, 0) hr2
  have hE3 : Ext w (W2.setRow w.heap.size #[.int .i64 c, .int .i64 b]) := (HE1.out.trans hE2).trans' ⟨rfl, rfl, rfl, by simp [World.setRow], fun k hk => setRow_other _ _ _ _ (by omega)⟩
  have HR2 := Lib.hid hr2
  have HR3 := Lib.hid hr3
  have HE3 := Lib.hid hE3
  clear hE2 hr2 hr3 hE3 CW HW1 hx1
  unfold zeroUsed at HR2
  go_wp2_with (refine wpList_store_row rfl 107 (.tmp 3) (.tmp 16) rfl w.heap.size _ rfl rfl 107 _ HR2.out sizeUsed rfl (by simp [Value.oneCell']) ?_)
  refine bodyPost_ret (v := .agg #[.int .i64 c, .int .i64 b]) ?_ rfl ⟨rfl, HE3.out⟩
  exact results_cell_row (p := 3) (ty := 107) rfl _ _ w.heap.size 107 #[.int .i64 c, .int .i64 b] (0, 0) _ rfl HR3.out Tryz.underlying107 rfl sizeUsed

/-- The first that is so. -/
def ExcOut (P : Nd → Bool) (L : List Nd) (w : World) (e : Ending) (w' : World) : Prop :=
  e = .returned (match L.find? P with | some n => .tuple #[.string n.path, .bool true] | none => .tuple #[.string ⟨#[]⟩, .bool false]) ∧ Ext w w'

theorem find_skip {P : Nd → Bool} {L : List Nd} {k : Nat} (hk : k < L.length) (h : P L[k] = false) : (L.drop k).find? P = (L.drop (k + 1)).find? P := by
  rw [List.drop_eq_getElem_cons hk, List.find?_cons, h]
theorem find_hit {P : Nd → Bool} {L : List Nd} {k : Nat} (hk : k < L.length) (h : P L[k] = true) : (L.drop k).find? P = some L[k] := by
  rw [List.drop_eq_getElem_cons hk, List.find?_cons, h]

theorem qexceeds_w (pv : Value) (M : List (Key × Nd)) (w : World) (hM : MOk M) (hG : GetsM pv M w) (s : ByteArray) (hs : s.size ≤ 9223372036854775800) (dn db : Int) (x : Nat) (uc ub : Nd → Int)
    (hU : ∀ W n, Ext w W → n ∈ overL M s → Calls Tryz.prog 156 #[.string n.path, .pointer (some ⟨x, 0, none⟩)] W fun e w' => e = .returned (.agg #[.int .i64 (uc n), .int .i64 (ub n)]) ∧ Ext W w') :
    Calls Tryz.prog 108 #[pv, .string s, .int .i64 dn, .int .i64 db, .func (.func 156) #[] #[.pointer (some ⟨x, 0, none⟩)]] w (ExcOut (fun n => passB n.count (uc n) dn || passB n.bytes (ub n) db) (overL M s) w) := by
  have C1 := Lib.hid (qover_any pv M w hM hG s hs)
  have hle := overL_le M s
  have HU := Lib.hid hU
  clear hG hU
  generalize overL M s = L at *
  generalize hPP : (fun n : Nd => passB n.count (uc n) dn || passB n.bytes (ub n) db) = PP
  have HPP := Lib.hid (fun n => (congrFun hPP n).symm)
  clear hPP
  go_enter Tryz.func108, Tryz.ntmps108
  go_wp2_with fail
  refine C1.out.mono ?_
  rintro e W1 ⟨v, rfl, hown, hE1⟩
  obtain ⟨a, c, vs, rfl, _, _, hrows, _⟩ := hown.rows
  have HROWS := Lib.hid hrows
  have HE1 := Lib.hid hE1
  have hz1 := hE1.size
  clear C1 hown hrows hE1
  go_wp2
  go_loopw [19] (fun i wr => ∃ k : Nat, k ≤ L.length ∧ i = .int .i64 k ∧ Hid (L.find? PP = (L.drop k).find? PP) ∧ Ext W1 wr) (fun i _ => L.length - (intOf i).toNat)
  case atStart => exact ⟨0, Nat.zero_le _, rfl, rfl, Ext.refl _⟩
  case round =>
    obtain ⟨k, hk, rfl, HF, hE⟩ := hrel
    by_cases hlt : k < L.length
    · obtain ⟨bl, off, da, dc, aa, ac, ea, hSb, hc, hD, hA, _⟩ := HROWS.out.row (List.getElem?_eq_getElem hlt)
      subst ea
      have hskip := find_skip (P := PP) hlt
      have hhit := find_hit (P := PP) hlt
      have hmem := List.getElem_mem hlt
      have hP := HPP.out L[k]
      generalize L[k] = n at *
      have hcw : ∀ j u, (ndC n (.slice da n.data.length dc) (.slice aa n.acl.length ac))[j]? = some u → wr.cell? ((⟨bl, off + k * 17, none⟩ : Addr).add j) = some u := fun j u hj => by
        rw [addr_add, hE.cell (p := ⟨bl, off + k * 17 + j, none⟩) hSb.2]; exact hc j u hj
      obtain ⟨X1, hX1⟩ : ∃ X1, X1 = wr.alloc (.cells (ndC n (.slice da n.data.length dc) (.slice aa n.acl.length ac)) 44) := ⟨_, rfl⟩
      have HSET1 := Lib.hid ((setRow_alloc wr zeroNd (ndC n (.slice da n.data.length dc) (.slice aa n.acl.length ac)) 44).trans hX1.symm)
      have HNEW1 := Lib.hid (heap_alloc_new wr (.cells zeroNd 44))
      have hEX1 : Ext wr X1 := by rw [hX1]; exact Ext.alloc _ _
      have hb1 : X1.heap[wr.heap.size]? = some (.cells (ndC n (.slice da n.data.length dc) (.slice aa n.acl.length ac)) 44 (0, 0)) := by rw [hX1]; exact heap_alloc_new wr _
      have hp : X1.cell? ⟨wr.heap.size, 0, none⟩ = some (.string n.path) := cell_of_row _ _ _ _ _ _ hb1
      have HE := Lib.hid (hE.trans hEX1)
      have CU := Lib.hid (HU.out X1 n (HE1.out.trans HE.out) hmem)
      have HC := Lib.hid hcw
      have HB1 := Lib.hid hb1
      have HHIT := Lib.hid hhit
      have HSKIP := Lib.hid hskip
      have HP := Lib.hid hP
      unfold ndC at HC HSET1
      unfold zeroNd at HSET1 HNEW1
      clear hcw hc hD hA hE hX1 hEX1 hb1 hskip hhit hmem hP
      go_wp2_with (first | (refine wpList_load_at rfl 44 (.tmp 21) rfl _ rfl _ _ HC.out Tryz.underlying44 rfl sizeNd ?_) | (refine wpList_store_row rfl 44 (.tmp 13) (.tmp 22) rfl wr.heap.size _ rfl rfl 44 _ HNEW1.out sizeNd rfl (cells_node n da aa _ _ dc ac) ?_; rw [HSET1.out]))
      refine CU.out.mono ?_
      rintro e X2 ⟨rfl, hE2⟩
      have hE2 : Ext X1 X2 := hE2
      obtain ⟨X3, hX3⟩ : ∃ X3, X3 = X2.alloc (.cells #[.int .i64 (uc n), .int .i64 (ub n)] 107) := ⟨_, rfl⟩
      have HSET2 := Lib.hid ((setRow_alloc X2 zeroUsed #[.int .i64 (uc n), .int .i64 (ub n)] 107).trans hX3.symm)
      have HNEW2 := Lib.hid (heap_alloc_new X2 (.cells zeroUsed 107))
      have hE3 : Ext X1 X3 := hE2.trans (by rw [hX3]; exact Ext.alloc _ _)
      have hb3 : X3.heap[X2.heap.size]? = some (.cells #[.int .i64 (uc n), .int .i64 (ub n)] 107 (0, 0)) := by rw [hX3]; exact heap_alloc_new X2 _
      have hbn : X3.heap[wr.heap.size]? = some (.cells (ndC n (.slice da n.data.length dc) (.slice aa n.acl.length ac)) 44 (0, 0)) := (hE3.block wr.heap.size (Array.getElem?_eq_some_iff.1 HB1.out).1).trans HB1.out
      have u0 : X3.cell? ⟨X2.heap.size, 0, none⟩ = some (.int .i64 (uc n)) := cell_of_row _ _ _ _ _ _ hb3
      have u1 : X3.cell? ⟨X2.heap.size, 1, none⟩ = some (.int .i64 (ub n)) := cell_of_row _ _ _ _ _ _ hb3
      have n0 : X3.cell? ⟨wr.heap.size, 0, none⟩ = some (.string n.path) := cell_of_row _ _ _ _ _ _ hbn
      have n15 : X3.cell? ⟨wr.heap.size, 15, none⟩ = some (.int .i64 n.count) := cell_of_row _ _ _ _ _ _ hbn
      have n16 : X3.cell? ⟨wr.heap.size, 16, none⟩ = some (.int .i64 n.bytes) := cell_of_row _ _ _ _ _ _ hbn
      have CP1 := Lib.hid (passes_any n.count (uc n) dn X3)
      have CP2 := Lib.hid (passes_any n.bytes (ub n) db X3)
      have HE3 := Lib.hid (HE.out.trans hE3)
      unfold zeroUsed at HSET2 HNEW2
      clear CU hE2 hX3 hE3 hb3 hbn hp HB1 HC HSET1 HNEW1
      have hfin : PP n = true → ExcOut PP L w (.returned (.tuple #[.string n.path, .bool true])) X3 := fun h => ⟨by rw [HF.out, HHIT.out h], HE1.out.trans HE3.out⟩
      have HFIN := Lib.hid hfin
      clear hfin
      cases h1 : passB n.count (uc n) dn with
      | true =>
        rw [h1] at CP1 HP
        have HX := Lib.hid (HFIN.out (by rw [HP.out]; rfl))
        clear h1 HFIN CP2
        go_wp2_with (refine wpList_store_row rfl 107 (.tmp 14) (.tmp 26) rfl X2.heap.size _ rfl rfl 107 _ HNEW2.out sizeUsed rfl (by simp [Value.oneCell']) ?_; rw [HSET2.out])
        refine CP1.out.mono ?_
        rintro e X4 ⟨rfl, rfl⟩
        clear CP1
        go_wp2
        go_ret2
        exact HX.out
      | false =>
        rw [h1] at CP1 HP
        cases h2 : passB n.bytes (ub n) db with
        | true =>
          rw [h2] at CP2 HP
          have HX := Lib.hid (HFIN.out (by rw [HP.out]; rfl))
          clear h1 h2 HFIN
          go_wp2_with (refine wpList_store_row rfl 107 (.tmp 14) (.tmp 26) rfl X2.heap.size _ rfl rfl 107 _ HNEW2.out sizeUsed rfl (by simp [Value.oneCell']) ?_; rw [HSET2.out])
          refine CP1.out.mono ?_
          rintro e X4 ⟨rfl, rfl⟩
          clear CP1
          go_wp2_with fail
          refine CP2.out.mono ?_
          rintro e X5 ⟨rfl, rfl⟩
          clear CP2
          go_wp2
          go_ret2
          exact HX.out
        | false =>
          rw [h2] at CP2 HP
          have hf := HF.out.trans (HSKIP.out (by rw [HP.out]; rfl))
          have HF2 := Lib.hid hf
          clear h1 h2 HFIN hf
          go_wp2_with (refine wpList_store_row rfl 107 (.tmp 14) (.tmp 26) rfl X2.heap.size _ rfl rfl 107 _ HNEW2.out sizeUsed rfl (by simp [Value.oneCell']) ?_; rw [HSET2.out])
          refine CP1.out.mono ?_
          rintro e X4 ⟨rfl, rfl⟩
          clear CP1
          go_wp2_with fail
          refine CP2.out.mono ?_
          rintro e X5 ⟨rfl, rfl⟩
          clear CP2 u0 u1 n0 n15 n16
          go_wp2
          go_roundw
          case rel => exact ⟨k + 1, by omega, by go_num, HF2.out, HE3.out⟩
          case measure => simp [intOf]; omega
    · obtain rfl : k = L.length := by omega
      have hfin : ExcOut PP L w (.returned (.tuple #[.string ⟨#[]⟩, .bool false])) wr := ⟨by rw [HF.out, List.drop_length]; rfl, HE1.out.trans hE⟩
      have HFIN := Lib.hid hfin
      clear hfin hE
      go_wp2
      go_ret2
      exact HFIN.out

/-- What Weigh answers at the paths that have quotas. -/
def WeighsM (pv : Value) (M : List (Key × Nd)) (w : World) : Prop := ∀ W (n : Nd), Ext w W → mget M n.path.data.toList = some n → Calls Tryz.prog 85 #[pv, .string n.path] W fun e w' => e = .returned (.tuple #[.int .i64 (undK M n.path).length, .int .i64 (bytesK M (undK M n.path)), .int .i64 0]) ∧ Ext W w'
theorem WeighsM.of_tree {S : Nat → Prop} {w : World} {bt : Nat} {M : List (Key × Nd)} {N : Nat} (hT : TreeAt S w bt M N) (hc : Clo M) (hl : M.length * 168 ≤ 140737488355328) : WeighsM (.pointer (some ⟨bt, 0, none⟩)) M w := fun W n hE hg => by
  have hp := (right_fit (hT.ok.at hg).2).1.path
  refine (weigh_any S W bt M N (hT.ext hE) hc n.path (by unfold maxLen; omega) hl).mono fun e w' h => ?_
  obtain ⟨rfl, h2⟩ := h
  rw [hg]
  exact ⟨rfl, h2⟩
theorem WeighsM.nil (pv : Value) (w : World) : WeighsM pv [] w := fun W n _ hg => by simp [mget] at hg

theorem qExceeds_any (pv : Value) (hpv : ∃ po, pv = .pointer po) (M : List (Key × Nd)) (w : World) (hM : MOk M) (hG : GetsM pv M w) (hWe : WeighsM pv M w) (s : ByteArray) (hs : s.size ≤ 9223372036854775800) (dn db : Int) :
    Calls Tryz.prog 60 #[pv, .string s, .int .i64 dn, .int .i64 db] w (ExcOut (overB M dn db) (overL M s) w) := by
  have C1 := Lib.hid (qweigh_any pv hpv w)
  have C2 := fun W (x : Nat) (hE : Ext w W) (hx : W.cell? ⟨x, 0, none⟩ = some pv) => (show Calls Tryz.prog 108 #[pv, .string s, .int .i64 dn, .int .i64 db, .func (.func 156) #[] #[.pointer (some ⟨x, 0, none⟩)]] W (ExcOut (overB M dn db) (overL M s) W) from
    qexceeds_w pv M W hM (fun W' t h1 h2 => hG W' t (hE.trans h1) h2) s hs dn db x (fun n => ((undK M n.path).length : Int)) (fun n => (bytesK M (undK M n.path) : Int)) (fun W' n h1 h2 =>
    qweigh1_any x pv n.path _ _ 0 W' ((h1.cell (p := ⟨x, 0, none⟩) (World.block_lt_of_cell? _ _ hx)).trans hx) fun W2 h3 => hWe W2 n ((hE.trans h1).trans h3) (overL_there hM h2).1))
  unfold ExcOut at C2 ⊢
  clear hG hWe hpv
  cases hf : (overL M s).find? (overB M dn db) with
  | none =>
    simp only [hf] at C2
    have C2 := Lib.hid C2
    clear hf
    go_enter Tryz.func60, Tryz.ntmps60
    go_wp2_with fail
    refine C1.out.mono ?_
    rintro e W1 ⟨x, rfl, hx, hxl, hE1⟩
    have C3 := Lib.hid (C2.out W1 x hE1 hx)
    have HE1 : Hid (Ext w W1) := hE1
    unfold WeighF
    clear C1 C2 hx hE1
    go_wp2_with fail
    refine C3.out.mono ?_
    rintro e W2 ⟨rfl, hE2⟩
    have HFIN : Hid (Ext w W2) := HE1.out.trans hE2
    clear C3 hE2
    go_wp2
    go_ret2
    exact ⟨rfl, HFIN.out⟩
  | some n =>
    simp only [hf] at C2
    have C2 := Lib.hid C2
    clear hf
    go_enter Tryz.func60, Tryz.ntmps60
    go_wp2_with fail
    refine C1.out.mono ?_
    rintro e W1 ⟨x, rfl, hx, hxl, hE1⟩
    have C3 := Lib.hid (C2.out W1 x hE1 hx)
    have HE1 : Hid (Ext w W1) := hE1
    unfold WeighF
    clear C1 C2 hx hE1
    go_wp2_with fail
    refine C3.out.mono ?_
    rintro e W2 ⟨rfl, hE2⟩
    have HFIN : Hid (Ext w W2) := HE1.out.trans hE2
    clear C3 hE2
    go_wp2
    go_ret2
    exact ⟨rfl, HFIN.out⟩
end Go.Proofs.YthinpbdbhijbgaaGreatDoor
namespace Go.Proofs.YthinpbdbhijbgaaGreatDoor
open Go.RowKit Go.Sort
set_option maxHeartbeats 4000000
set_option maxRecDepth 100000
attribute [local go_sem] Oper.semAt_some

def usedV (M : List (Key × Nd)) (n : Nd) : Value := .agg #[.int .i64 (undK M n.path).length, .int .i64 (bytesK M (undK M n.path))]
def usedP (M : List (Key × Nd)) (L : List Nd) : List (Key × Value) := (L.filter (·.has)).map fun n => (keyN n, usedV M n)
/-- What is used at the quotas of a tree. -/
def usedL (M : List (Key × Nd)) : List (Key × Value) := usedP M (nds M)
theorem usedP_snoc (M : List (Key × Nd)) (L : List Nd) (n : Nd) : usedP M (L ++ [n]) = usedP M L ++ if n.has = true then [(keyN n, usedV M n)] else [] := by
  unfold usedP
  rw [List.filter_append, List.map_append]
  congr 1
  by_cases h : n.has = true
  · rw [if_pos h, List.filter_cons_of_pos h]; rfl
  · rw [if_neg h, List.filter_cons_of_neg h]; rfl
theorem usedP_length (M : List (Key × Nd)) (L : List Nd) : (usedP M L).length ≤ L.length := by
  unfold usedP
  rw [List.length_map]
  exact List.length_filter_le _ _
theorem mins_last {α : Type} {x : Key × α} : ∀ {m : List (Key × α)}, (∀ y ∈ m, bytesBefore y.1 x.1 = true) → mins x m = m ++ [x]
  | [], _ => rfl
  | y :: r, h => by
    have h1 := h y (List.mem_cons_self ..)
    have h2 : ¬ bytesBefore x.1 y.1 = true := fun h2 => before_asymm h1 h2
    show (if bytesBefore x.1 y.1 = true then x :: y :: r else y :: mins x r) = _
    rw [if_neg h2, mins_last fun z hz => h z (List.mem_cons_of_mem _ hz)]
    rfl
theorem mput_last {α : Type} {m : List (Key × α)} {k : Key} {v : α} (h : ∀ y ∈ m, bytesBefore y.1 k = true) : mput m k v = m ++ [(k, v)] := by
  have e : mdel m k = m := List.filter_eq_self.2 fun y hy => by
    have h1 := h y hy
    simp only [Bool.not_eq_true', beq_eq_false_iff_ne, ne_eq]
    intro e
    rw [e] at h1
    exact before_asymm h1 h1
  unfold mput
  rw [e]
  exact mins_last h

/-- A book in memory: its block, its map. -/
def BookAt (w : World) (bb bm : Nat) (m : List (Key × Value)) : Prop := w.heap[bb]? = some (.cells #[.map (some bm)] 165 (0, 0)) ∧ SMap Tryz.prog 9 w bm m
theorem BookAt.ext {w w' : World} {bb bm : Nat} {m : List (Key × Value)} (h : BookAt w bb bm m) (hE : Ext w w') : BookAt w' bb bm m :=
  ⟨(hE.block bb (Array.getElem?_eq_some_iff.1 h.1).1).trans h.1, h.2.keep (hE.block bm h.2.lt)⟩
def BegOut (M : List (Key × Nd)) (w : World) (e : Ending) (w' : World) : Prop := ∃ bb bm, e = .returned (.pointer (some ⟨bb, 0, none⟩)) ∧ BookAt w' bb bm (usedL M) ∧ w.heap.size ≤ bb ∧ w.heap.size ≤ bm ∧ Ext w w'

/-- What All hands back, whatever the tree. -/
def AllsM (pv : Value) (M : List (Key × Nd)) (w : World) (ga : Nat) : Prop := ∀ W, Ext w W → ga < W.heap.size → Calls Tryz.prog 89 #[pv] W fun e W1 => ∃ bw btb, e = .returned (.func (.func 195) #[] #[.pointer (some ⟨bw, 0, none⟩), .pointer (some ⟨btb, 0, none⟩)]) ∧
  Tells Fence.wide 5 Tryz.prog 195 #[.pointer (some ⟨bw, 0, none⟩), .pointer (some ⟨btb, 0, none⟩)] (fun x : Value × Nd => #[x.1]) (GS fun _ k => k ≠ ga) (KeepS fun _ k => k ≠ ga) (fun _ k => k ≠ ga) (fun xs => xs.map (·.2) = nds M) (fun pre => ∃ rest, pre.map (·.2) ++ rest = nds M) W1 ∧ Ext W W1
theorem AllsM.of_tree {S : Nat → Prop} {w : World} {bt : Nat} {M : List (Key × Nd)} {N : Nat} (hT : TreeAt S w bt M N) (hl : M.length * 168 ≤ 140737488355328) (ga : Nat) (hga : w.heap.size ≤ ga) : AllsM (.pointer (some ⟨bt, 0, none⟩)) M w ga := fun W hE _ => by
  refine (tall_any bt W).mono ?_
  rintro e W1 ⟨bw, btb, rfl, hcw, hct, hE1⟩
  have hT1 := (hT.ext hE).ext hE1
  have hok := hT.ok
  have hs1 : ∀ k, S k → k ≠ ga := fun k hk => by have := hT.bound k hk; omega
  have TT := told_tells (fun _ k => k ≠ ga) S W1 bt M N hT1 hs1 bw btb 152 #[.pointer (some ⟨bt, 0, none⟩)] #[] hcw hct (enters_of Tryz.func152 (by kernel_rfl) rfl) (M.map (·.1))
    (fun W hW => by simpa using tsorted_any S W bt M N (hT1.ext hW) (by omega)) (by simpa using hl) hok.keys_le
  rw [nodesOf_vals hok.sorted] at TT
  exact ⟨bw, btb, rfl, TT, hE1⟩

structure BegI (M : List (Key × Nd)) (pv : Value) (b1 bm bb b3 : Nat) (w W7 : World) (pre : List (Value × Nd)) (W : World) : Prop where
  map : SMap Tryz.prog 9 W bm (usedP M (pre.map (·.2)))
  c1 : W.heap[b1]? = some (.cells #[pv] 37 (0, 0))
  cb : W.heap[bb]? = some (.cells #[.map (some bm)] 165 (0, 0))
  c3 : W.heap[b3]? = some (.cells #[.pointer (some ⟨bb, 0, none⟩)] 65 (0, 0))
  size : W7.heap.size ≤ W.heap.size
  keep : Below w.heap.size w W
theorem BegI.turn {M : List (Key × Nd)} {pv : Value} {b1 bm bb b3 : Nat} {w W7 : World} {pre : List (Value × Nd)} {X Y : World} (h : BegI M pv b1 bm bb b3 w W7 pre X) (hT : Turn W7.heap.size X Y) (hw : w.heap.size ≤ W7.heap.size) : BegI M pv b1 bm bb b3 w W7 pre Y := by
  obtain ⟨h0, h1, h2, h3, h4, h5⟩ := h
  refine ⟨?_, hT.cells h1, hT.cells h2, hT.cells h3, Nat.le_trans h4 hT.size, h5.trans (hT.below hw h5.size)⟩
  obtain ⟨es, c, hb⟩ := h0.isMap
  exact h0.keep ((hT.same bm _ hb (.inr rfl)).trans hb.symm)
theorem BegI.ext {M : List (Key × Nd)} {pv : Value} {b1 bm bb b3 : Nat} {w W7 : World} {pre : List (Value × Nd)} {X Y : World} (h : BegI M pv b1 bm bb b3 w W7 pre X) (hE : Ext X Y) (hw : w.heap.size ≤ W7.heap.size) : BegI M pv b1 bm bb b3 w W7 pre Y := h.turn (Turn.of_ext hE) hw

theorem qbegin_any (pv : Value) (hpv : ∃ po, pv = .pointer po) (M : List (Key × Nd)) (w : World) (hM : MOk M) (hA : ∀ ga, w.heap.size ≤ ga → AllsM pv M w ga) (hWe : WeighsM pv M w) (hl : M.length * 168 ≤ 140737488355328) :
    Calls Tryz.prog 34 #[pv] w (BegOut M w) := by
  obtain ⟨po, rfl⟩ := hpv
  obtain ⟨Wa, hWa⟩ : ∃ Wa, Wa = w.alloc (.cells #[.pointer po] 37) := ⟨_, rfl⟩
  obtain ⟨Wb, hWb⟩ : ∃ Wb, Wb = Wa.alloc (.map #[] 0) := ⟨_, rfl⟩
  obtain ⟨Wc, hWc⟩ : ∃ Wc, Wc = Wb.alloc (.cells #[.map (some (w.heap.size + 1))] 165) := ⟨_, rfl⟩
  obtain ⟨Wd, hWd⟩ : ∃ Wd, Wd = Wc.alloc (.cells #[.pointer (some ⟨w.heap.size + 1 + 1, 0, none⟩)] 65) := ⟨_, rfl⟩
  have hEa : Ext w Wa := by rw [hWa]; exact Ext.alloc _ _
  have hEb : Ext Wa Wb := by rw [hWb]; exact Ext.alloc _ _
  have hEc : Ext Wb Wc := by rw [hWc]; exact Ext.alloc _ _
  have hEd : Ext Wc Wd := by rw [hWd]; exact Ext.alloc _ _
  have hza : Wa.heap.size = w.heap.size + 1 := by rw [hWa]; simp
  have hzb : Wb.heap.size = w.heap.size + 2 := by rw [hWb]; simp [hza]
  have hzc : Wc.heap.size = w.heap.size + 3 := by rw [hWc]; simp [hzb]
  have hzd : Wd.heap.size = w.heap.size + 4 := by rw [hWd]; simp [hzc]
  have g1 : Wd.heap[w.heap.size]? = some (.cells #[.pointer po] 37 (0, 0)) := ((hEb.trans (hEc.trans hEd)).block w.heap.size (by omega)).trans (by rw [hWa]; exact heap_alloc_new w _)
  have gm : SMap Tryz.prog 9 Wd (w.heap.size + 1) [] := by
    have : SMap Tryz.prog 9 Wb (w.heap.size + 1) [] := by rw [hWb, ← hza]; exact SMap.made _ _ Wa
    exact this.keep ((hEc.trans hEd).block (w.heap.size + 1) (by omega))
  have gb : Wd.heap[w.heap.size + 2]? = some (.cells #[.map (some (w.heap.size + 1))] 165 (0, 0)) := (hEd.block (w.heap.size + 2) (by omega)).trans (by rw [hWc, ← hzb]; exact heap_alloc_new Wb _)
  have g3 : Wd.heap[w.heap.size + 3]? = some (.cells #[.pointer (some ⟨w.heap.size + 1 + 1, 0, none⟩)] 65 (0, 0)) := by rw [hWd, ← hzc]; exact heap_alloc_new Wc _
  have hEw : Ext w Wd := hEa.trans (hEb.trans (hEc.trans hEd))
  have C1 := Lib.hid (hA (w.heap.size + 1) (by omega) Wd hEw (by omega))
  have hWd2 : ((((w.alloc (.cells #[.pointer po] 37)).alloc (.map #[] 0)).alloc (.cells #[.map (some (w.heap.size + 1))] 165)).alloc (.cells #[.pointer (some ⟨w.heap.size + 1 + 1, 0, none⟩)] 65)) = Wd := by rw [hWd, hWc, hWb, hWa]
  have HWD := Lib.hid hWd2
  have HM := Lib.hid hM
  have HWE := Lib.hid hWe
  have HEW := Lib.hid hEw
  have HI0 := Lib.hid (And.intro g1 (And.intro gm (And.intro gb g3)))
  have q1 : (Wd.alloc (.cells #[] 0)).heap.size = Wd.heap.size + 1 := by simp
  clear hA hWe hM g1 gm gb g3 hEw hEa hEb hEc hEd hWd2 hWa hWb hWc hWd hza hzb hzc q1
  clear Wa Wb Wc
  have hmm := @run_makeMap Tryz.prog
  refine (callsIn_wide (n := 6)).1 (callsIn_of_wp_marks Tryz.func34 rfl trivial ?_)
  simp only [Tryz.ntmps34, List.size_toArray, List.length_cons, List.length_nil, Nat.reduceAdd, Nat.reduceSub, Array.replicate_succ, Array.replicate_zero, List.push_toArray, List.append_toArray, List.nil_append, List.cons_append]
  gi_wp2_with fail
  rw [HWD.out]
  refine ⟨trivial, (callsIn_wide.2 C1.out).mono ?_⟩
  rintro e W1 ⟨bw, btb, rfl, TT, hE1⟩
  have hE1 : Ext Wd W1 := hE1
  obtain ⟨g1, gm, gb, g3⟩ := HI0.out
  have hz1 := hE1.size
  have hEw1 := HEW.out.trans hE1
  have hI0 : BegI M (.pointer po) w.heap.size (w.heap.size + 1) (w.heap.size + 1 + 1) (w.heap.size + 1 + 1 + 1) w W1 [] W1 :=
    ⟨gm.keep (hE1.block _ gm.lt), (hE1.block _ (by omega)).trans g1, (hE1.block _ (by omega)).trans gb, (hE1.block _ (by omega)).trans g3, Nat.le_refl _, hEw1⟩
  have hnn := told_not_nil #[.pointer (some ⟨bw, 0, none⟩), .pointer (some ⟨btb, 0, none⟩)] W1
  have TT := Lib.hid TT
  have HI1 := Lib.hid hI0
  have HE1 := Lib.hid hEw1
  clear hI0 hEw1 g1 gm gb g3 C1 HWD HI0 hmm hE1
  gi_wp2
  refine wpIn_tells_nd (Safe := fun _ k => k ≠ w.heap.size + 1) (by omega) (gf := 195) (lb := #[.pointer (some ⟨bw, 0, none⟩), .pointer (some ⟨btb, 0, none⟩)]) rfl (enters_of Tryz.func195 (by kernel_rfl) rfl) TT.out (show 10 < 26 by decide) (show 4 < 26 by decide) (by decide)
    (BegI M (.pointer po) w.heap.size (w.heap.size + 1) (w.heap.size + 1 + 1) (w.heap.size + 1 + 1 + 1) w W1) (fun _ _ _ => False) (fun _ _ _ _ h => h) ?hI ?hIx HI1.out ?body ?done ?stop
  case hI =>
    intro pre X Y hX hTn
    exact ⟨hX.turn hTn (by omega), fun k hk => by have := hX.size; omega⟩
  case hIx => exact fun _ _ _ _ h _ => h
  case stop => exact fun _ _ _ _ _ _ h => h.elim
  case body =>
    rintro l pre n da dc aa ac bl W hl0 hrec ⟨rest, hSp⟩ hIW hG hbl
    simp only [List.setIfInBounds_toArray, List.set_cons_succ, List.set_cons_zero]
    have hh : W.cell? ⟨bl, 14, none⟩ = some (.bool n.has) := cell_of_row _ _ _ _ _ _ hbl
    have hp0 : W.cell? ⟨bl, 0, none⟩ = some (.string n.path) := cell_of_row _ _ _ _ _ _ hbl
    have hc1 : W.cell? ⟨w.heap.size, 0, none⟩ = some (.pointer po) := cell_of_row _ _ _ _ _ _ hIW.c1
    have hcb : W.cell? ⟨w.heap.size + 1 + 1, 0, none⟩ = some (.map (some (w.heap.size + 1))) := cell_of_row _ _ _ _ _ _ hIW.cb
    have hc3 : W.cell? ⟨w.heap.size + 1 + 1 + 1, 0, none⟩ = some (.pointer (some ⟨w.heap.size + 1 + 1, 0, none⟩)) := cell_of_row _ _ _ _ _ _ hIW.c3
    have hsn := usedP_snoc M (pre.map (·.2)) n
    have hpre : (pre ++ [(Value.agg (ndC n (.slice da n.data.length dc) (.slice aa n.acl.length ac)), n)]).map (·.2) = pre.map (·.2) ++ [n] := by simp
    have hSp : (pre.map (·.2) ++ [n]) ++ rest = nds M := by rw [← hpre]; exact hSp
    have HSN := Lib.hid hsn
    have HPRE := Lib.hid hpre
    have HIW := Lib.hid hIW
    clear hsn hpre
    refine wpIn_block ?_
    cases hhas : n.has with
    | false =>
      rw [hhas] at hh
      have hst : usedP M (pre.map (·.2) ++ [n]) = usedP M (pre.map (·.2)) := by rw [HSN.out, hhas]; simp
      have HST := Lib.hid hst
      clear hst hhas hSp
      gi_wp2
      have hK := Kp.ext (B := W1.heap.size) (ga := w.heap.size + 1) (Ext.refl W)
      have hi := HIW.out
      exact ⟨hK.recs, hK.cells, ⟨by rw [HPRE.out, HST.out]; exact hi.map, hi.c1, hi.cb, hi.c3, hi.size, hi.keep⟩⟩
    | true =>
      rw [hhas] at hh
      have hst : usedP M (pre.map (·.2) ++ [n]) = usedP M (pre.map (·.2)) ++ [(keyN n, usedV M n)] := by rw [HSN.out, hhas]; simp
      have hmem : n ∈ nds M := by rw [← hSp]; simp
      obtain ⟨x0, hx0, hxe⟩ := List.mem_map.1 hmem
      have hx1 : x0.2 = n := hxe
      have hkx : x0.1 = keyN n := by rw [← hx1]; exact HM.out.key x0 hx0
      have hg : mget M n.path.data.toList = some n := mget_of_mem HM.out.sorted (by
        have : x0 = (n.path.data.toList, n) := Prod.ext hkx hx1
        rw [← this]; exact hx0)
      have hps : n.path.size ≤ maxLen := by
        have := (right_fit (HM.out.at hg).2).1.path
        unfold maxLen; omega
      have hsrt : ∀ y ∈ usedP M (pre.map (·.2)), bytesBefore y.1 (keyN n) = true := fun y hy => by
        unfold usedP at hy
        obtain ⟨m, hm, rfl⟩ := List.mem_map.1 hy
        have hm := (List.mem_filter.1 hm).1
        have hpw : (nds M).Pairwise fun a b => bytesBefore (keyN a) (keyN b) = true := by
          unfold nds
          rw [List.pairwise_map]
          exact HM.out.sorted.imp_of_mem fun {a b} ha hb h => by
            rw [← HM.out.key a ha, ← HM.out.key b hb]; exact h
        rw [← hSp, List.pairwise_append, List.pairwise_append] at hpw
        exact hpw.1.2.2 m hm n (List.mem_singleton.2 rfl)
      have hlen := usedP_length M (pre.map (·.2))
      have hpl : (pre.map (·.2)).length ≤ M.length := by
        have := congrArg List.length hSp
        rw [nds_length] at this
        simp only [List.length_append] at this
        omega
      have hWe : ∀ W2, Ext W W2 → Calls Tryz.prog 85 #[.pointer po, .string n.path] W2 fun e w' => e = .returned (.tuple #[.int .i64 (undK M n.path).length, .int .i64 (bytesK M (undK M n.path)), .int .i64 0]) ∧ Ext W2 w' := fun W2 h2 => HWE.out W2 n (Ext.trans HIW.out.keep h2) hg
      have HST := Lib.hid hst
      have HSRT := Lib.hid hsrt
      clear hst hhas hSp hmem hx0 hxe hx1 hkx hg hsrt
      gi_wp2
      refine wpIn_region_P l (by kernel_rfl) (by rfl) (region_sp_last 26 [.val (.pointer (some ⟨w.heap.size + 1 + 1, 0, none⟩)), .val (.pointer (some ⟨w.heap.size + 1 + 1, 0, none⟩)), .val (.pointer (some ⟨w.heap.size + 1 + 1, 0, none⟩)), .val (.map (some (w.heap.size + 1))), .val (.pointer (some ⟨bl, 0, none⟩)), .val (.string n.path), .val (.pointer po), .prop (fun v w => ∃ x, v = WeighF x ∧ w.cell? ⟨x, 0, none⟩ = some (.pointer po)), .val (.pointer (some ⟨bl, 0, none⟩)), .val (.string n.path), .val (.agg #[.int .i64 (undK M n.path).length, .int .i64 (bytesK M (undK M n.path))])] ⟨fun v w w' h hE => by obtain ⟨x, h1, h2⟩ := h; exact ⟨x, h1, (hE.cell (World.block_lt_of_cell? _ _ h2)).trans h2⟩, trivial⟩ 11 _ rfl rfl rfl rfl rfl (by decide) rfl ?duties ?last)
      case duties =>
        refine ⟨?_, ?_, ?_, ?_, ?_, ?_, ?_, ?_, ?_, ?_, ?_, trivial⟩
        · refine duty_free rfl fun a w' hE hF hA => ?_
          have x1 := hF.slot 3 _ (by decide) rfl
          exact wp_value (ex_cell rfl _ _ x1 ((hE.cell (World.block_lt_of_cell? _ _ hc3)).trans hc3) rfl Tryz.underlying65) ⟨_, rfl, rfl, Ext.refl _⟩
        · refine duty_free rfl fun a w' hE hF hA => ?_
          have x1 := hA.pick 0 14 (.pointer (some ⟨w.heap.size + 1 + 1, 0, none⟩)) rfl rfl ⟨⟨0, .data⟩, by simp, rfl, rfl⟩ (fun u h => h)
          exact wp_value (ex_nilCheck rfl _ x1) ⟨_, rfl, rfl, Ext.refl _⟩
        · refine duty_free rfl fun a w' hE hF hA => ?_
          have x1 := hA.pick 1 15 (.pointer (some ⟨w.heap.size + 1 + 1, 0, none⟩)) rfl rfl ⟨⟨1, .data⟩, by simp, rfl, rfl⟩ (fun u h => h)
          exact wp_value (w' := w') (v := .pointer (some ⟨w.heap.size + 1 + 1, 0, none⟩)) (by simp only [execOp, x1]; simp [go_sem]) ⟨_, rfl, rfl, Ext.refl _⟩
        · refine duty_free rfl fun a w' hE hF hA => ?_
          have x1 := hA.pick 2 16 (.pointer (some ⟨w.heap.size + 1 + 1, 0, none⟩)) rfl rfl ⟨⟨2, .data⟩, by simp, rfl, rfl⟩ (fun u h => h)
          exact wp_value (ex_cell rfl _ _ x1 ((hE.cell (World.block_lt_of_cell? _ _ hcb)).trans hcb) rfl Tryz.underlying163) ⟨_, rfl, rfl, Ext.refl _⟩
        · refine duty_free rfl fun a w' hE hF hA => ?_
          have x1 := hF.slot 4 _ (by decide) rfl
          exact wp_value (w' := w') (v := .pointer (some ⟨bl, 0, none⟩)) (by simp only [execOp, x1]; simp [go_sem]) ⟨_, rfl, rfl, Ext.refl _⟩
        · refine duty_free rfl fun a w' hE hF hA => ?_
          have x1 := hA.pick 4 18 (.pointer (some ⟨bl, 0, none⟩)) rfl rfl ⟨⟨4, .data⟩, by simp, rfl, rfl⟩ (fun u h => h)
          exact wp_value (ex_cell rfl _ _ x1 ((hE.cell (World.block_lt_of_cell? _ _ hp0)).trans hp0) rfl Tryz.underlying9) ⟨_, rfl, rfl, Ext.refl _⟩
        · refine duty_free rfl fun a w' hE hF hA => ?_
          have x1 := hF.slot 1 _ (by decide) rfl
          exact wp_value (ex_cell rfl _ _ x1 ((hE.cell (World.block_lt_of_cell? _ _ hc1)).trans hc1) rfl Tryz.underlying37) ⟨_, rfl, rfl, Ext.refl _⟩
        · refine duty_free rfl fun a w' hE hF hA => ?_
          have x1 := hA.pick 6 20 (.pointer po) rfl rfl ⟨⟨6, .data⟩, by simp, rfl, rfl⟩ (fun u h => h)
          refine wp_enter (ex_call rfl (enters_f Tryz.func100 (by kernel_rfl) rfl)) (by simp only [List.map_toArray, List.map_cons, List.map_nil, x1]; exact qweigh_any (.pointer po) ⟨_, rfl⟩ w') ?_
          rintro e w4 ⟨x, rfl, hx, _, hb⟩
          exact ⟨_, rfl, _, rfl, ⟨x, rfl, hx⟩, hb⟩
        · refine duty_free rfl fun a w' hE hF hA => ?_
          have x1 := hF.slot 4 _ (by decide) rfl
          exact wp_value (w' := w') (v := .pointer (some ⟨bl, 0, none⟩)) (by simp only [execOp, x1]; simp [go_sem]) ⟨_, rfl, rfl, Ext.refl _⟩
        · refine duty_free rfl fun a w' hE hF hA => ?_
          have x1 := hA.pick 8 22 (.pointer (some ⟨bl, 0, none⟩)) rfl rfl ⟨⟨8, .data⟩, by simp, rfl, rfl⟩ (fun u h => h)
          exact wp_value (ex_cell rfl _ _ x1 ((hE.cell (World.block_lt_of_cell? _ _ hp0)).trans hp0) rfl Tryz.underlying9) ⟨_, rfl, rfl, Ext.refl _⟩
        · refine duty_free rfl fun a w' hE hF hA => ?_
          have p1 : (fun v w => ∃ x, v = WeighF x ∧ w.cell? ⟨x, 0, none⟩ = some (.pointer po)) (a.eval (.tmp 21)) w' := hA.slot 7 21 rfl rfl ⟨⟨7, .data⟩, by simp, rfl, rfl⟩
          have x2 := hA.pick 9 23 (.string n.path) rfl rfl ⟨⟨9, .data⟩, by simp, rfl, rfl⟩ (fun u h => h)
          obtain ⟨x, x1, hx⟩ := p1
          refine wp_enter (ex_callv rfl x1 (enters_f Tryz.func156 (by kernel_rfl) rfl)) (by simp only [List.map_toArray, List.map_cons, List.map_nil, List.append_toArray, List.cons_append, List.nil_append, x2]; exact qweigh1_any x (.pointer po) n.path _ _ 0 w' hx fun W2 h2 => hWe W2 (hE.trans h2)) ?_; rintro e w4 ⟨rfl, hb⟩; exact ⟨_, rfl, _, rfl, rfl, hb⟩
      case last =>
        intro W8 hE8
        simp only [forS]
        intro u hu
        clear hu
        have hi := HIW.out.ext hE8 (by omega)
        have hq1 : (usedP M (pre.map (·.2))).length < maxLen := by unfold maxLen; omega
        have HI8 := Lib.hid hi
        have HE8 := Lib.hid hE8
        clear hE8 hi
        simp only [filled, List.take_succ_cons, List.take_zero, List.zip_cons_cons, List.zip_nil_left, List.foldl_cons, List.foldl_nil, Act.put, List.setIfInBounds_toArray, List.set_cons_succ, List.set_cons_zero]
        refine oper_put (.tmp 17) (.tmp 19) (.tmp 24) 163 rfl 9 107 strT Tryz.underlying163 (w.heap.size + 1) (usedP M (pre.map (·.2))) HI8.out.map hq1 rfl n.path hps rfl _ rfl ?_
        intro W9 hS9 hT9
        have hi := HI8.out
        have hMod : Mod (· = w.heap.size + 1) W8 W9 := Mod.turned hT9 rfl
        have hK := (Kp.ext (B := W1.heap.size) (ga := w.heap.size + 1) HE8.out).trans (Kp.mod hMod fun k hk => by omega)
        change KeepsRec W1.heap.size W W9 ∧ KeepS (fun _ k => k ≠ w.heap.size + 1) W W9 ∧ BegI M (.pointer po) w.heap.size (w.heap.size + 1) (w.heap.size + 1 + 1) (w.heap.size + 1 + 1 + 1) w W1 (pre ++ [_]) W9
        refine ⟨hK.recs, hK.cells, ⟨?_, hMod.cells hi.c1, hMod.cells hi.cb, hMod.cells hi.c3, Nat.le_trans hi.size hMod.size, hi.keep.trans (hMod.below (fun k hk => by subst hk; exact Nat.le_succ _) hi.keep.size)⟩⟩
        rw [HPRE.out, HST.out]
        have e := mput_last (v := usedV M n) HSRT.out
        rw [← e]
        exact hS9
  case done =>
    rintro D xs W hD hS hIW hK
    have hfin : Ext w (W.putObj D (.deferred none)) := hIW.keep.trans ((Turn.putObj (B := W1.heap.size) (.deferred none) hD hK rfl).below (by omega) hIW.keep.size)
    have HFIN := Lib.hid hfin
    have HK := Lib.hid hK
    have hc3 : W.cell? ⟨w.heap.size + 1 + 1 + 1, 0, none⟩ = some (.pointer (some ⟨w.heap.size + 1 + 1, 0, none⟩)) := cell_of_row _ _ _ _ _ _ hIW.c3
    have hbk : BookAt (W.putObj D (.deferred none)) (w.heap.size + 1 + 1) (w.heap.size + 1) (usedL M) := by
      have hi := hIW.turn (Turn.putObj (B := W1.heap.size) (.deferred none) hD hK rfl) (by omega)
      refine ⟨hi.cb, ?_⟩
      have h := hi.map
      rw [hS] at h
      exact h
    have HBK := Lib.hid hbk
    clear hfin hK hbk TT HI1 hIW
    gi_wp2
    refine ⟨by simp, .inl ⟨_, _, rfl, run_takeDeferred HK.out, ?_⟩⟩
    refine ⟨_, results_tmp rfl _ _ _, ?_⟩
    exact ⟨_, _, rfl, HBK.out, by omega, by omega, HFIN.out⟩
end Go.Proofs.YthinpbdbhijbgaaGreatDoor
namespace Go.Proofs.YthinpbdbhijbgaaGreatDoor
open Go.RowKit Go.Sort
set_option maxHeartbeats 4000000
set_option maxRecDepth 100000

/-- A book's values are nodes and bytes. -/
def Pairs (m : List (Key × Value)) : Prop := ∀ x ∈ m, ∃ c b : Int, x.2 = .agg #[.int .i64 c, .int .i64 b]
theorem usedP_pairs (M : List (Key × Nd)) (L : List Nd) : Pairs (usedP M L) := fun x hx => by
  unfold usedP at hx
  obtain ⟨n, _, rfl⟩ := List.mem_map.1 hx
  exact ⟨_, _, rfl⟩
def usedAt (m : List (Key × Value)) (s : ByteArray) : Value := (mget m s.data.toList).getD (.agg zeroUsed)
theorem Pairs.at {m : List (Key × Value)} (h : Pairs m) (s : ByteArray) : ∃ c b : Int, usedAt m s = .agg #[.int .i64 c, .int .i64 b] := by
  unfold usedAt
  cases hg : mget m s.data.toList with
  | none => exact ⟨0, 0, rfl⟩
  | some v => exact h _ (mget_some_mem hg)

theorem qused_any (w : World) (bb bm : Nat) (m : List (Key × Value)) (hB : BookAt w bb bm m) (hv : Pairs m) (s : ByteArray) (hs : s.size ≤ maxLen) :
    Calls Tryz.prog 61 #[.pointer (some ⟨bb, 0, none⟩), .string s] w fun e w' => e = .returned (.tuple #[usedAt m s, .bool (mget m s.data.toList).isSome]) ∧ Ext w w' := by
  obtain ⟨c, b, hcb⟩ := hv.at s
  obtain ⟨W1, hW1⟩ : ∃ W1, W1 = w.alloc (.cells zeroUsed 107) := ⟨_, rfl⟩
  have hE1 : Ext w W1 := by rw [hW1]; exact Ext.alloc _ _
  have hz1 : W1.heap.size = w.heap.size + 1 := by rw [hW1]; simp
  have hr1 : W1.heap[w.heap.size]? = some (.cells zeroUsed 107 (0, 0)) := by rw [hW1]; exact heap_alloc_new w _
  obtain ⟨W2, hW2⟩ : ∃ W2, W2 = W1.alloc (.cells #[.int .i64 c, .int .i64 b] 107) := ⟨_, rfl⟩
  have hE2 : Ext W1 W2 := by rw [hW2]; exact Ext.alloc _ _
  have hr2 := (hE2.block w.heap.size (by omega)).trans hr1
  have hb2 : W2.heap[W1.heap.size]? = some (.cells #[.int .i64 c, .int .i64 b] 107 (0, 0)) := by rw [hW2]; exact heap_alloc_new W1 _
  have hB1 := hB.ext hE1
  have hbk : W1.cell? ⟨bb, 0, none⟩ = some (.map (some bm)) := cell_of_row _ _ _ _ _ _ hB1.1
  have hlk := SMap.look_ok (e := 107) hB1.2 strT Tryz.underlying163 (z := .agg zeroUsed) (by kernel_rfl) hs
  rw [show (mget m s.data.toList).getD (.agg zeroUsed) = .agg #[.int .i64 c, .int .i64 b] from hcb] at hlk
  have HSET := (setRow_alloc W1 zeroUsed #[.int .i64 c, .int .i64 b] 107).trans hW2.symm
  have HNew := heap_alloc_new W1 (.cells zeroUsed 107)
  have hr3 := setRow_heap W2 w.heap.size _ #[.int .i64 c, .int .i64 b] 107 (0, 0) hr2
  have hE3 : Ext w (W2.setRow w.heap.size #[.int .i64 c, .int .i64 b]) := (hE1.trans hE2).trans' ⟨rfl, rfl, rfl, by simp [World.setRow], fun k hk => setRow_other _ _ _ _ (by omega)⟩
  rw [hcb]
  generalize (mget m s.data.toList).isSome = th at *
  rw [hz1] at hb2
  have HB2 := Lib.hid hb2
  have HR2 := Lib.hid hr2
  have HR3 := Lib.hid hr3
  have HE3 := Lib.hid hE3
  unfold zeroUsed at HSET HNew HR2
  have hbk' := hbk
  have hlk' := hlk
  unfold zeroUsed at hW1
  rw [hW1] at HSET HNew hbk' hlk'
  rw [World.size_alloc] at HSET HNew
  have HSET := Lib.hid HSET
  have HNew := Lib.hid HNew
  clear hbk hlk hcb hW2 hb2 hr2 hr3 hE3 hB1 hB hr1 hE1 hE2 hW1
  go_enter Tryz.func61, Tryz.ntmps61
  go_wp2_with (first | (refine wpList_store_row rfl 107 (.tmp 6) (.tmp 18) rfl (w.heap.size + 1) _ rfl rfl 107 _ HNew.out sizeUsed rfl (by simp [Value.oneCell']) ?_; rw [HSET.out]) | (refine wpList_load_row rfl 107 (.tmp 6) rfl (w.heap.size + 1) rfl 107 _ (0, 0) _ HB2.out Tryz.underlying107 rfl sizeUsed ?_) | (refine wpList_store_row rfl 107 (.tmp 4) (.tmp 20) rfl w.heap.size _ rfl rfl 107 _ HR2.out sizeUsed rfl (by simp [Value.oneCell']) ?_))
  refine bodyPost_ret (v := .tuple #[.agg #[.int .i64 c, .int .i64 b], .bool th]) ?_ rfl ⟨rfl, HE3.out⟩
  exact results_cell_row2 (p := 4) (q := 5) (ty := 107) rfl _ _ w.heap.size 107 _ (0, 0) _ _ rfl rfl HR3.out Tryz.underlying107 rfl sizeUsed
end Go.Proofs.YthinpbdbhijbgaaGreatDoor
namespace Go.Proofs.YthinpbdbhijbgaaGreatDoor
open Go.RowKit Go.Sort
set_option maxHeartbeats 4000000
set_option maxRecDepth 100000

/-- A row of the call's own that shows these texts. -/
def TextsOut (L : List ByteArray) (w : World) (e : Ending) (w' : World) : Prop := ∃ v, e = .returned v ∧ w'.ownsRow w.heap.size 9 1 v L.length (L.map .string) ∧ Ext w w'
theorem texts_out {L : List ByteArray} {w w' : World} {e : Ending} (h : TextsOut L w e w') : ∃ a c, e = .returned (.slice a L.length c) ∧ StrsAt w'.heap.size w' a L ∧ Ext w w' := by
  obtain ⟨v, rfl, hown, hE⟩ := h
  have hO2' : w'.ownsRow w.heap.size 9 1 v (L.map fun p => p.data.toList).length ((L.map fun p => p.data.toList).map encStr) := by
    have e : L.map (encStr ∘ fun p => p.data.toList) = L.map Value.string := List.map_congr_left fun p _ => encStr_data p
    rw [List.length_map, List.map_map, e]
    exact hown
  obtain ⟨sa, sc, rfl, _, hstr⟩ := StrsAt.of_own hO2'
  have e : (L.map fun p => p.data.toList).map (fun k => (⟨k.toArray⟩ : ByteArray)) = L := by
    rw [List.map_map]
    exact (List.map_congr_left fun p _ => by simp).trans (List.map_id _)
  rw [e] at hstr
  exact ⟨sa, sc, by rw [List.length_map], hstr, hE⟩

theorem qOver_any (pv : Value) (M : List (Key × Nd)) (w : World) (hM : MOk M) (hG : GetsM pv M w) (s : ByteArray) (hs : s.size ≤ 9223372036854775800) :
    Calls Tryz.prog 63 #[pv, .string s] w (TextsOut ((overL M s).map (·.path)) w) := by
  have C1 := Lib.hid (qover_any pv M w hM hG s hs)
  have hle := overL_le M s
  clear hG
  generalize overL M s = L at *
  go_enter Tryz.func63, Tryz.ntmps63
  go_wp2_with fail
  refine C1.out.mono ?_
  rintro e W1 ⟨v, rfl, hown, hE1⟩
  obtain ⟨a, c, vs, rfl, _, _, hrows, _⟩ := hown.rows
  have HROWS := Lib.hid hrows
  have HE1 := Lib.hid hE1
  have hz1 := hE1.size
  clear C1 hown hrows hE1
  go_wp2
  go_loopw [5, 12] (fun lv i wr => ∃ k : Nat, k ≤ L.length ∧ i = .int .i64 k ∧ Hid (wr.ownsRow W1.heap.size 9 1 lv k ((L.take k).map fun n => .string n.path)) ∧ Ext W1 wr) (fun _ i _ => L.length - (intOf i).toNat)
  case atStart => exact ⟨0, Nat.zero_le _, rfl, World.ownsRow_nil _ _ _ _, Ext.refl _⟩
  case round =>
    obtain ⟨k, hk, rfl, HO, hE⟩ := hrel
    by_cases hlt : k < L.length
    · obtain ⟨bl, off, da, dc, aa, ac, ea, hSb, hc, hD, hA, _⟩ := HROWS.out.row (List.getElem?_eq_getElem hlt)
      subst ea
      have htk : (L.take (k + 1)).map (fun n => Value.string n.path) = (L.take k).map (fun n => Value.string n.path) ++ [.string L[k].path] := by rw [List.take_succ_eq_append_getElem hlt, List.map_append]; rfl
      generalize L[k] = n at *
      have hcw : ∀ j u, (ndC n (.slice da n.data.length dc) (.slice aa n.acl.length ac))[j]? = some u → wr.cell? ((⟨bl, off + k * 17, none⟩ : Addr).add j) = some u := fun j u hj => by
        rw [addr_add, hE.cell (p := ⟨bl, off + k * 17 + j, none⟩) hSb.2]; exact hc j u hj
      obtain ⟨X1, hX1⟩ : ∃ X1, X1 = wr.alloc (.cells (ndC n (.slice da n.data.length dc) (.slice aa n.acl.length ac)) 44) := ⟨_, rfl⟩
      have HSET1 := Lib.hid ((setRow_alloc wr zeroNd (ndC n (.slice da n.data.length dc) (.slice aa n.acl.length ac)) 44).trans hX1.symm)
      have HNEW1 := Lib.hid (heap_alloc_new wr (.cells zeroNd 44))
      have hEX1 : Ext wr X1 := by rw [hX1]; exact Ext.alloc _ _
      have hb1 : X1.heap[wr.heap.size]? = some (.cells (ndC n (.slice da n.data.length dc) (.slice aa n.acl.length ac)) 44 (0, 0)) := by rw [hX1]; exact heap_alloc_new wr _
      have hp : X1.cell? ⟨wr.heap.size, 0, none⟩ = some (.string n.path) := cell_of_row _ _ _ _ _ _ hb1
      have hO1 := HO.out.kept (grown_of_ext hEX1 none) (Classical.em _)
      have HC := Lib.hid hcw
      have HE := Lib.hid (hE.trans hEX1)
      have HTK := Lib.hid htk
      have hzr := hE.size
      have hzx := hEX1.size
      unfold ndC at HC HSET1
      unfold zeroNd at HSET1 HNEW1
      clear hcw hc hD hA hE htk hX1 hEX1 hb1 HO
      go_wp2_with (first | (refine wpList_load_at rfl 44 (.tmp 14) rfl _ rfl _ _ HC.out Tryz.underlying44 rfl sizeNd ?_) | (refine wpList_store_row rfl 44 (.tmp 7) (.tmp 15) rfl wr.heap.size _ rfl rfl 44 _ HNEW1.out sizeNd rfl (cells_node n da aa _ _ dc ac) ?_; rw [HSET1.out]) | (at_builtin; refine wpList_append_s rfl (.tmp 16) (.tmp 19) rfl W1.heap.size k _ _ hO1 (by omega) n.path (by omega) rfl rfl ?_))
      intro v' W6 hO6 hE6
      have HO6 := Lib.hid hO6
      have HE6 := Lib.hid (hE6 W1 HE.out (Nat.le_refl _))
      clear hO6 hE6 hO1 hp
      go_wp2
      go_roundw
      case rel => exact ⟨k + 1, by omega, by go_num, by unfold Hid; rw [HTK.out]; simpa [List.map_take] using HO6.out, HE6.out⟩
      case measure => simp [intOf]; omega
    · obtain rfl : k = L.length := by omega
      rw [List.take_length] at HO
      have hfin : TextsOut (L.map (·.path)) w (.returned u5) wr := ⟨_, rfl, by
        rw [List.length_map, List.map_map]
        exact ownsRow_base_a HO.out hz1, HE1.out.trans hE⟩
      have HFIN := Lib.hid hfin
      clear hfin hE HO
      go_wp2
      go_ret
      exact HFIN.out
end Go.Proofs.YthinpbdbhijbgaaGreatDoor
namespace Go.Proofs.YthinpbdbhijbgaaGreatDoor
open Go.RowKit Go.Sort
set_option maxHeartbeats 4000000
set_option maxRecDepth 100000

theorem OwnN.nds {L : List Nd} {base : Nat} {v : Value} {w : World} (h : OwnN base L v w) : ∃ a c, v = .slice a L.length c ∧ NdsAt w.heap.size w a L := by
  obtain ⟨a, c, vs, rfl, _, _, hr, _⟩ := h.rows
  exact ⟨a, c, rfl, hr.nds fun k hk => hk.2⟩

theorem no10_any (x : Int) (w : World) : Calls Tryz.prog 10 #[.int .i64 x] w fun e w' => e = .returned (.int .i64 x) ∧ w = w' := by
  go_enter Tryz.func10, Tryz.ntmps10
  go_wp2
  go_ret
  exact ⟨rfl, rfl⟩

theorem sameTexts_self (L : List ByteArray) (a b : Option Addr) (c d : Nat) (w : World) (hA : StrsAt w.heap.size w a L) (hB : StrsAt w.heap.size w b L) (hl : L.length ≤ 9223372036854775807) :
    Calls Tryz.prog 62 #[.slice a L.length c, .slice b L.length d] w fun e w' => e = .returned (.bool true) ∧ Ext w w' := by
  have HA := Lib.hid hA
  have HB := Lib.hid hB
  clear hA hB
  go_enter Tryz.func62, Tryz.ntmps62
  go_wp2
  go_loopw [5] (fun i wr => ∃ k : Nat, k ≤ L.length ∧ i = .int .i64 k ∧ Ext w wr) (fun i _ => L.length - (intOf i).toNat)
  case atStart => exact ⟨0, Nat.zero_le _, rfl, Ext.refl _⟩
  case round =>
    obtain ⟨k, hk, rfl, hE⟩ := hrel
    by_cases hlt : k < L.length
    · obtain ⟨b1, o1, rfl, hb1, hc1⟩ := HA.out k L[k] (List.getElem?_eq_getElem hlt)
      obtain ⟨b2, o2, rfl, hb2, hc2⟩ := HB.out k L[k] (List.getElem?_eq_getElem hlt)
      generalize L[k] = n at *
      have c1 := (hE.cell (p := ⟨b1, o1 + k, none⟩) hb1).trans hc1
      have c2 := (hE.cell (p := ⟨b2, o2 + k, none⟩) hb2).trans hc2
      have HE := Lib.hid hE
      clear hE hc1 hc2
      go_wp2
      go_quiet (fail)
      go_wp2
      go_roundw
      case rel => exact ⟨k + 1, by omega, by go_num, HE.out.trans' (below_drewN (Below.refl _ _) _)⟩
      case measure => simp [intOf]; omega
    · obtain rfl : k = L.length := by omega
      have HE := Lib.hid hE
      clear hE
      go_wp2
      go_ret
      exact ⟨rfl, HE.out⟩
end Go.Proofs.YthinpbdbhijbgaaGreatDoor
