/- The walk of layer 10's nodes: those of some paths that are there. The walk of layer 10's paths: what a change touches. Both trees and the book in one memory, between two changes. The walks of quota.Equal and maps.Equal: of two books with the same numbers. What the calls of a round of QuotaBooks make of both trees and the book. What is over a quota, by the book and by the document, between two changes. The contracts of a nil quota book, and of the nil tree's. The law QuotaTurns, walked. The law QuotaBooks, walked. -/
import Derived.Test.YthinpbdbhijbgaaGreatDoorJQuotaBooks23
import Derived.Test.YthinpbdbhijbgaaGreatDoorJQuotaBooks9
import Derived.Test.YthinpbdbhijbgaaGreatDoorJQuotaBooks13
import Derived.Test.YthinpbdbhijbgaaGreatDoorJQuotaBooks11
import Derived.Test.YthinpbdbhijbgaaGreatDoorJQuotaBooks12
import Derived.Test.YthinpbdbhijbgaaGreatDoorJQuotaBooks8
import Derived.Test.YthinpbdbhijbgaaGreatDoorJQuotaBooks17
import Derived.Test.YthinpbdbhijbgaaGreatDoorJQuotaBooks15
import Derived.Test.YthinpbdbhijbgaaGreatDoorJQuotaBooks22
import Derived.Test.YthinpbdbhijbgaaGreatDoorJQuotaBooks10
import Derived.Test.YthinpbdbhijbgaaGreatDoorJQuotaBooks14
namespace Go.Proofs.YthinpbdbhijbgaaGreatDoor
open Go.RowKit Go.Sort
set_option maxHeartbeats 4000000
set_option maxRecDepth 100000

theorem atL_take {M : List (Key × Nd)} {L : List ByteArray} {k : Nat} (hk : k < L.length) : atL M (L.take (k + 1)) = atL M (L.take k) ++ (mget M L[k].data.toList).toList := by
  unfold atL
  rw [List.take_succ_eq_append_getElem hk, List.flatMap_append]; simp

theorem nodes10_any (w : World) (b : Nat) (M : List (Key × Nd)) (hR : RT w b (nds M)) (hM : MOk M) (L : List ByteArray) (a : Option Addr) (c : Nat) (hL : StrsAt w.heap.size w a L) (hl : L.length ≤ 4096) (hs : ∀ q ∈ L, q.size ≤ 9223372036854775800) :
    Calls Tryz.prog 36 #[.pointer (some ⟨b, 0, none⟩), .slice a L.length c] w (NodesOut (atL M L) w) := by
  have HR := Lib.hid hR
  have HM := Lib.hid hM
  have HL := Lib.hid hL
  have HS := Lib.hid hs
  clear hR hM hL hs
  go_enter Tryz.func36, Tryz.ntmps36
  go_wp2
  go_loopw [5, 6] (fun ov i wr => ∃ k : Nat, k ≤ L.length ∧ i = .int .i64 k ∧ Hid (OwnN w.heap.size (atL M (L.take k)) ov wr) ∧ Ext w wr) (fun _ i _ => L.length - (intOf i).toNat)
  case atStart => exact ⟨0, Nat.zero_le _, rfl, OwnN.nil _ _, Ext.refl _⟩
  case round =>
    obtain ⟨k, hk, rfl, HO, hE⟩ := hrel
    by_cases hlt : k < L.length
    · obtain ⟨bl, off, rfl, hb, hc⟩ := HL.out k L[k] (List.getElem?_eq_getElem hlt)
      have htk := atL_take (M := M) hlt
      have hlen := atL_len M (L.take k)
      rw [List.length_take] at hlen
      have hq := HS.out _ (List.getElem_mem hlt)
      have hcr := (hE.cell (p := ⟨bl, off + k, none⟩) hb).trans hc
      generalize L[k] = q at *
      have CG := Lib.hid (rget_any wr b M (HR.out.ext hE) HM.out q hq)
      have HTK := Lib.hid htk
      have HE := Lib.hid hE
      clear hc hE htk
      go_wp2_with fail
      refine CG.out.mono ?_
      rintro e W2 ⟨v, rfl, hv, hE2⟩
      have hE2 : Ext wr W2 := hE2
      obtain ⟨da, dc, aa, ac, W3, e0, hset, hbx, hE3, _, _⟩ := box_node hv fun k hk => hk.2
      subst e0
      have hNd : NdS (fun k => wr.heap.size ≤ k ∧ k < W3.heap.size) W3 (.agg (ndC ((mget M q.data.toList).getD zeroN) (.slice da ((mget M q.data.toList).getD zeroN).data.length dc) (.slice aa ((mget M q.data.toList).getD zeroN).acl.length ac))) ((mget M q.data.toList).getD zeroN) :=
        NdS.imp hv (fun k hk => ⟨hk.1, Nat.lt_of_lt_of_le hk.2 hE3.size⟩) fun _ _ _ _ hu => cell_ext hE3 _ _ _ hu
      have hE23 := hE2.trans hE3
      have HSET := Lib.hid hset
      have HNEW := Lib.hid (heap_alloc_new W2 (.cells zeroNd 44))
      have HBX := Lib.hid hbx
      have HND := Lib.hid hNd
      have HE3 := Lib.hid (HE.out.trans hE23)
      have HO3 := Lib.hid (HO.out.ext hE23)
      have HE23 := Lib.hid hE23
      have hzr : w.heap.size ≤ wr.heap.size := HE.out.size
      clear CG hE2 hE3 hset hbx hNd hv hE23 hcr
      cases hg : mget M q.data.toList with
      | none =>
        have hst : atL M (L.take (k + 1)) = atL M (L.take k) := by rw [HTK.out, hg]; simp
        have HST := Lib.hid hst
        rw [hg] at HSET
        simp only [Option.getD_none, Option.isSome_none] at HSET ⊢
        unfold ndC at HSET ⊢
        unfold zeroNd at HSET HNEW
        clear hst hg HBX HND HTK HO
        go_wp2_with (refine wpList_store_row rfl 44 (.tmp 7) (.tmp 22) rfl W2.heap.size _ rfl rfl 44 _ HNEW.out sizeNd rfl (cells_node zeroN da aa _ _ dc ac) ?_; rw [HSET.out])
        go_roundw
        case rel => exact ⟨k + 1, by omega, by go_num, by unfold Hid; rw [HST.out]; exact HO3.out, HE3.out⟩
        case measure => simp [intOf]; omega
      | some n =>
        have hst : atL M (L.take (k + 1)) = atL M (L.take k) ++ [n] := by rw [HTK.out, hg]; simp
        have HST := Lib.hid hst
        rw [hg] at HSET HBX HND
        simp only [Option.getD_some, Option.isSome_some] at HSET HBX HND ⊢
        unfold ndC at HSET HBX HND ⊢
        unfold zeroNd at HSET HNEW
        clear hst hg HTK HO3
        go_wp2_with (first | (refine wpList_store_row rfl 44 (.tmp 7) (.tmp 22) rfl W2.heap.size _ rfl rfl 44 _ HNEW.out sizeNd rfl (cells_node n da aa _ _ dc ac) ?_; rw [HSET.out]) | (refine wpList_load_row rfl 44 (.tmp 7) rfl W2.heap.size rfl 44 _ (0, 0) _ HBX.out Tryz.underlying44 rfl sizeNd ?_) | (at_builtin; refine wpList_append_nd rfl (.tmp 25) (.tmp 27) rfl w.heap.size _ _ HO.out HE23.out hzr n _ HND.out (by omega) rfl rfl ?_))
        intro v' W6 hO6 hE6
        have HO6 := Lib.hid hO6
        have HE6 := Lib.hid (hE6 w HE3.out (Nat.le_refl _))
        clear hO6 hE6
        go_wp2
        go_roundw
        case rel => exact ⟨k + 1, by omega, by go_num, by unfold Hid; rw [HST.out]; exact HO6.out, HE6.out⟩
        case measure => simp [intOf]; omega
    · obtain rfl : k = L.length := by omega
      have hO := HO.out
      rw [List.take_length] at hO
      have HFIN := Lib.hid (And.intro hO hE)
      clear hO hE HO
      go_wp2
      go_ret
      exact ⟨_, rfl, HFIN.out⟩
end Go.Proofs.YthinpbdbhijbgaaGreatDoor
namespace Go.Proofs.YthinpbdbhijbgaaGreatDoor
open Go.RowKit Go.Sort
set_option maxHeartbeats 4000000
set_option maxRecDepth 100000

/-- Strings in blocks from lo on. -/
def StrsIn (lo : Nat) (w : World) (a : Option Addr) (L : List ByteArray) : Prop := ∀ i s, L[i]? = some s → ∃ b off, a = some ⟨b, off, none⟩ ∧ lo ≤ b ∧ b < w.heap.size ∧ w.cell? ⟨b, off + i, none⟩ = some (.string s)
theorem StrsIn.at {lo : Nat} {w : World} {a : Option Addr} {L : List ByteArray} (h : StrsIn lo w a L) : StrsAt w.heap.size w a L := fun i s hi => by
  obtain ⟨b, off, h1, _, h2, h3⟩ := h i s hi
  exact ⟨b, off, h1, h2, h3⟩
theorem StrsIn.chg {lo : Nat} {w w' : World} {a : Option Addr} {L : List ByteArray} {C : Nat → Prop} (h : StrsIn lo w a L) (hC : Chg C w w') (hc : ∀ k, C k → k < lo) : StrsIn lo w' a L := fun i s hi => by
  obtain ⟨b, off, h1, h2, h3, h4⟩ := h i s hi
  refine ⟨b, off, h1, h2, Nat.lt_of_lt_of_le h3 hC.size, ?_⟩
  have e := hC.same b h3 fun hk => by have := hc b hk; omega
  unfold World.cell? at h4 ⊢
  rwa [e]
theorem OwnN.nds_chg {base : Nat} {L : List Nd} {v : Value} {w w' : World} {C : Nat → Prop} (h : OwnN base L v w) (hC : Chg C w w') (hc : ∀ k, C k → k < base) : ∃ a c, v = .slice a L.length c ∧ NdsAt w'.heap.size w' a L := by
  obtain ⟨a, c, vs, e, _, _, h5, _⟩ := h.rows
  refine ⟨a, c, e, (h5.imp (S' := fun k => k < w'.heap.size) (fun k hk => Nat.lt_of_lt_of_le hk.2 hC.size) fun k hk => hC.same k hk.2 fun hs => ?_).nds fun k hk => hk⟩
  have := hc k hs; have := hk.1; omega
def PathsOut (L : List ByteArray) (w : World) (e : Ending) (w' : World) : Prop := ∃ a c, e = .returned (.slice a L.length c) ∧ StrsIn w.heap.size w' a L ∧ Ext w w'
theorem strs_of {w : World} {base : Nat} {v : Value} {L : List ByteArray} (h : w.ownsRow base 9 1 v L.length (L.map .string)) : ∃ a c, v = .slice a L.length c ∧ StrsIn base w a L := by
  rcases h.2 with ⟨rfl, h0⟩ | ⟨g, cap, cur, rfl, h1, h2, h3⟩
  · obtain rfl : L = [] := List.eq_nil_of_length_eq_zero h0
    exact ⟨none, 0, rfl, fun i s hi => by simp at hi⟩
  · refine ⟨_, cap, rfl, fun i s hi => ⟨g, 0, rfl, h1, (Array.getElem?_eq_some_iff.1 h2).1, ?_⟩⟩
    have := h.cells (g := g) rfl i (.string s) (by rw [List.getElem?_map, hi]; rfl)
    rwa [addr_add] at this
theorem paths10_any (k : Int) (n : Nd) (p : Bool) (da aa : Option Addr) (dc ac : Nat) (hf : Fit n) (w : World) :
    Calls Tryz.prog 35 #[.agg (chC k n p (.slice da n.data.length dc) (.slice aa n.acl.length ac))] w (PathsOut (tchL n.path p) w) := by
  have hps := hf.path
  obtain ⟨W1, hW1⟩ : ∃ W1, W1 = w.alloc (.cells (chC k n p (.slice da n.data.length dc) (.slice aa n.acl.length ac)) 68) := ⟨_, rfl⟩
  have hE1 : Ext w W1 := by rw [hW1]; exact Ext.alloc _ _
  have hz1 : W1.heap.size = w.heap.size + 1 := by rw [hW1]; simp
  have hn1 : W1.heap[w.heap.size]? = some (.cells (chC k n p (.slice da n.data.length dc) (.slice aa n.acl.length ac)) 68 (0, 0)) := by rw [hW1]; exact heap_alloc_new w _
  have hc1 : W1.cell? ⟨w.heap.size, 1, none⟩ = some (.string n.path) := cell_of_row _ _ _ _ _ _ hn1
  obtain ⟨W2, hW2⟩ : ∃ W2, W2 = W1.alloc (.cells #[.string n.path] 9) := ⟨_, rfl⟩
  have hE2 : Ext W1 W2 := by rw [hW2]; exact Ext.alloc _ _
  have hc2 : W2.cell? ⟨w.heap.size, 1, none⟩ = some (.string n.path) := (hE2.cell (World.block_lt_of_cell? _ _ hc1)).trans hc1
  have hc180 : W1.cell? ⟨w.heap.size, 18, none⟩ = some (.bool p) := cell_of_row _ _ _ _ _ _ hn1
  have hc18 : W2.cell? ⟨w.heap.size, 18, none⟩ = some (.bool p) := (hE2.cell (World.block_lt_of_cell? _ _ hc180)).trans hc180
  have hrow : W2.ownsRow w.heap.size 9 1 (.slice (some ⟨W1.heap.size, 0, none⟩) 1 1) 1 [.string n.path] := by rw [hW2]; exact World.ownsRow_lit W1 #[.string n.path] 1 (by omega) (by decide) rfl
  have CP := rparent_any n.path W2 hps
  have HE2 := Lib.hid (hE1.trans hE2)
  have HROW := Lib.hid hrow
  have HC18 := Lib.hid hc18
  rw [hW2, hW1] at CP hc2
  rw [hW1] at hc1
  rw [hW1, World.size_alloc] at HROW
  have HW := Lib.hid (hW2.trans (by rw [hW1]))
  unfold chC at CP hc1 hc2 HW ⊢
  have CP := Lib.hid CP
  clear hc180 hn1 hE1 hE2 hrow hc18 hf hW1 hW2 hz1
  go_enter Tryz.func35, Tryz.ntmps35
  go_wp2_with fail
  refine CP.out.mono ?_
  rintro e W3 ⟨rfl, hE3⟩
  rw [← HW.out] at hE3
  have hE3 : Ext W2 W3 := hE3
  have c18 : W3.cell? ⟨w.heap.size, 18, none⟩ = some (.bool p) := (hE3.cell (World.block_lt_of_cell? _ _ HC18.out)).trans HC18.out
  have HO3 := Lib.hid (World.ownsRow.kept HROW.out (grown_of_ext hE3 none) (Classical.em _))
  have HE3 := Lib.hid (HE2.out.trans hE3)
  have hz3 := HE3.out.size
  clear CP hE3 HC18 HROW HE2 HW hc1 hc2
  have hone : tchL n.path p = [n.path] → ∃ a c, Value.slice (some ⟨w.heap.size + 1, 0, none⟩) 1 1 = .slice a (tchL n.path p).length c ∧ StrsIn w.heap.size W3 a (tchL n.path p) := fun h => by
    rw [h]
    exact strs_of (L := [n.path]) HO3.out
  have HONE := Lib.hid hone
  clear hone
  by_cases hv : vpath n.path = true ∧ n.path.size ≠ 1
  · have hpv : parV n.path = .tuple #[.string (parentB n.path), .int .i64 0] := by unfold parV; rw [if_pos hv]
    rw [hpv]
    clear hpv
    cases p with
    | false =>
      obtain ⟨a, c, e1, h1⟩ := HONE.out (by unfold tchL; rw [if_neg (fun h => by cases h.1)])
      have H1 := Lib.hid h1
      have E1 := Lib.hid e1
      clear h1 e1 HONE
      go_wp2
      go_ret
      exact ⟨a, c, congrArg Ending.returned E1.out, H1.out, HE3.out⟩
    | true =>
      have ht : tchL n.path true = [n.path] ++ [parentB n.path] := by unfold tchL; rw [if_pos ⟨rfl, hv⟩]; rfl
      have HT := Lib.hid ht
      clear ht HONE hv
      go_wp2_with (at_builtin; refine wpList_append_s rfl (.tmp 23) (.tmp 25) rfl w.heap.size 1 _ _ HO3.out hz3 (parentB n.path) (by omega) rfl rfl ?_)
      intro v4 W4 hO4 hE4
      obtain ⟨a, c, e1, h1⟩ := strs_of (L := [n.path] ++ [parentB n.path]) hO4
      subst e1
      have H1 := Lib.hid h1
      have HE4 := Lib.hid (hE4 w HE3.out (Nat.le_refl _))
      clear h1 hO4 hE4
      go_wp2
      go_ret
      exact ⟨a, c, by rw [HT.out]; rfl, by rw [HT.out]; exact H1.out, HE4.out⟩
  · have hpv : parV n.path = .tuple #[.string ⟨#[]⟩, .int .i64 30] := by unfold parV; rw [if_neg hv]
    obtain ⟨a, c, e1, h1⟩ := HONE.out (by unfold tchL; rw [if_neg (fun h => hv h.2)])
    have H1 := Lib.hid h1
    have E1 := Lib.hid e1
    rw [hpv]
    clear h1 e1 HONE hpv hv
    cases p with
    | false =>
      go_wp2
      go_ret
      exact ⟨a, c, congrArg Ending.returned E1.out, H1.out, HE3.out⟩
    | true =>
      go_wp2
      go_ret
      exact ⟨a, c, congrArg Ending.returned E1.out, H1.out, HE3.out⟩
end Go.Proofs.YthinpbdbhijbgaaGreatDoor
namespace Go.Proofs.YthinpbdbhijbgaaGreatDoor
open Go.RowKit Go.Sort
set_option maxHeartbeats 2000000

/-- The blocks of the book lie apart. -/
def OffBook (S R : Nat → Prop) (br bb bm : Nat) : Prop := ∀ k, S k ∨ R k ∨ k = br → k ≠ bb ∧ k ≠ bm
/-- The trees hold M, the book is MB's. -/
structure BkAt (B : Nat) (w wr : World) (bt br bb bm K : Nat) (M MB : List (Key × Nd)) : Prop where
  ex : ∃ S R, Two7 B S R wr bt br K M ∧ OffBook S R br bb bm
  book : BookAt wr bb bm (bookV (useB MB))
  low : B ≤ bb ∧ B ≤ bm
  bel : Below B w wr
section
variable {B : Nat} {w wr W : World} {bt br bb bm K : Nat} {M M' MB MB' : List (Key × Nd)}
theorem BkAt.ext (h : BkAt B w wr bt br bb bm K M MB) (hE : Ext wr W) : BkAt B w W bt br bb bm K M MB := by
  obtain ⟨S, R, h1, h2⟩ := h.ex
  exact ⟨⟨S, R, h1.ext hE, h2⟩, h.book.ext hE, h.low, h.bel.trans (hE.mono h1.size)⟩
theorem BkAt.turn {S R : Nat → Prop} (h : BkAt B w wr bt br bb bm K M MB) (h2 : Two7 B S R wr bt br K M) (ha : OffBook S R br bb bm) (hA : Aft7 B S R wr wr bt br (K + 1) M' W) : BkAt B w W bt br bb bm (K + 1) M' MB := by
  obtain ⟨S', R', h3, h4, h5⟩ := hA
  have hb1 : bb < wr.heap.size := (Array.getElem?_eq_some_iff.1 h.book.1).1
  have hb2 : bm < wr.heap.size := h.book.2.lt
  have hn : ∀ k, k = bb ∨ k = bm → ¬ (S k ∨ k = br) := fun k hk hs => by
    have := ha k (hs.imp id .inr)
    rcases hk with e | e
    · exact this.1 e
    · exact this.2 e
  refine ⟨⟨S', R', h3, fun k hk => ?_⟩, ⟨(h5.same bb hb1 (hn bb (.inl rfl))).trans h.book.1, h.book.2.keep (h5.same bm hb2 (hn bm (.inr rfl)))⟩, h.low, h.bel.trans (h5.below (fun k hk => ?_) h2.size)⟩
  · rcases hk with hk | hk | hk
    · rcases h4 k (.inl hk) with h6 | h6 | h6
      · exact ha k (.inl h6)
      · exact ha k (.inr (.inl h6))
      · exact ⟨fun e => by omega, fun e => by omega⟩
    · rcases h4 k (.inr hk) with h6 | h6 | h6
      · exact ha k (.inl h6)
      · exact ha k (.inr (.inl h6))
      · exact ⟨fun e => by omega, fun e => by omega⟩
    · exact ha k (.inr (.inr hk))
  · rcases hk with hk | hk
    · exact h2.low k (.inl hk)
    · rw [hk]; exact h2.own
theorem BkAt.mod (h : BkAt B w wr bt br bb bm K M MB) (hM : Mod (· = bm) wr W) (hB : BookAt W bb bm (bookV (useB MB'))) : BkAt B w W bt br bb bm K M MB' := by
  obtain ⟨S, R, h1, h2⟩ := h.ex
  refine ⟨⟨S, R, h1.chg hM.chg fun k hk => ?_, h2⟩, hB, h.low, h.bel.trans (hM.chg.below (fun k hk => ?_) h1.size)⟩
  · exact ⟨fun e => (h2 k (.inl e)).2 hk, fun e => (h2 k (.inr (.inl e))).2 hk, fun e => (h2 k (.inr (.inr e))).2 hk⟩
  · rw [hk]; exact h.low.2
end
end Go.Proofs.YthinpbdbhijbgaaGreatDoor
namespace Go.Proofs.YthinpbdbhijbgaaGreatDoor
open Go.RowKit Go.Sort
set_option maxHeartbeats 8000000
set_option maxRecDepth 100000

def TrueOut (w : World) (e : Ending) (w' : World) : Prop := e = .returned (.bool true) ∧ Ext w w'
/-- A range that only looks: nothing is kept of it. -/
def LQ (b r : Nat) (mb : List (Key × Value)) (w wr : World) : Prop := ∃ (left : Lit → Bool) (cnt : Nat), Hid (wr.ranges Tryz.prog 9 Rv b r mb.length (kvD mb) left cnt) ∧ Hid (Ext w wr)

theorem mapsEqQ_any (b1 b2 : Nat) (m : List (Key × Value)) (w : World) (h1 : SMap Tryz.prog 9 w b1 m) (h2 : SMap Tryz.prog 9 w b2 m) (hv : Pairs m) :
    Calls Tryz.prog 107 #[.map (some b1), .map (some b2)] w (TrueOut w) := by
  have hlen1 := fun ty => h1.len (e := 107) Tryz.underlying163 ty
  have hlen2 := fun ty => h2.len (e := 107) Tryz.underlying163 ty
  have hb1 := h1.lt
  have HM1 := h1
  have H2 := Lib.hid h2
  have HV := Lib.hid hv
  clear h1 h2 hv
  go_enter Tryz.func107, Tryz.ntmps107
  go_wp2_with (at_range; refine wpList_range_s _ rfl _ 163 rfl 9 107 strT Tryz.underlying163 b1 m rfl HM1 ?_; intro w0 hrg0 hg0 hs0)
  go_frame
  have hE0 : Ext w w0 := ⟨hg0.os, hg0.tape, hg0.output, hg0.size, fun k hk => hg0.block k hk (by simp)⟩
  have HL0 : Hid (LQ b1 w.heap.size m w w0) := ⟨_, _, hrg0, hE0⟩
  clear HM1 hlen1 hlen2 hrg0 hg0 hs0 hE0
  go_loopw [] (fun wr => LQ b1 w.heap.size m w wr) (fun wr => wr.rangeLeft b1 w.heap.size)
  case atStart => exact HL0.out
  case round =>
    obtain ⟨left, cnt, HRG, HE⟩ := hrel
    clear HL0
    go_wp2_with (at_next; refine wpList_next_s2 _ rfl _ rfl 9 strT b1 w.heap.size _ m left cnt rfl HRG.out ?_ ?_)
    · intro hl0
      clear HRG
      go_wp2
      go_ret
      exact ⟨rfl, HE.out⟩
    · intro s v w6 cnt6 hs _ hmg hrg6 hlt6 hg6 hsz6 hen
      obtain ⟨c, d, hcd⟩ := HV.out _ (mget_some_mem hmg)
      have hcd : v = .agg #[.int .i64 c, .int .i64 d] := hcd
      subst hcd
      have hEw6 : Ext w w6 := HE.out.trans' ⟨hg6.os, hg6.tape, hg6.output, hg6.size, fun i hi => hg6.block i (Nat.lt_of_lt_of_le hi HE.out.size) (fun e => by
        have := Option.some.inj e
        omega)⟩
      obtain ⟨W7, hW7⟩ : ∃ W7, W7 = w6.alloc (.cells #[.int .i64 c, .int .i64 d] 107) := ⟨_, rfl⟩
      have hE7 : Ext w6 W7 := by rw [hW7]; exact Ext.alloc _ _
      have hz7 : W7.heap.size = w6.heap.size + 1 := by rw [hW7]; simp
      have hn7 : W7.heap[w6.heap.size]? = some (.cells #[.int .i64 c, .int .i64 d] 107 (0, 0)) := by rw [hW7]; exact heap_alloc_new _ _
      have hEw7 := hEw6.trans hE7
      have h27 := H2.out.keep (hEw7.block b2 H2.out.lt)
      have hlk := SMap.look_ok (e := 107) h27 strT Tryz.underlying163 (z := .agg zeroUsed) (by kernel_rfl) hs
      rw [hmg] at hlk
      simp only [Option.getD_some, Option.isSome_some] at hlk
      obtain ⟨W8, hW8⟩ : ∃ W8, W8 = W7.alloc (.cells #[.int .i64 c, .int .i64 d] 107) := ⟨_, rfl⟩
      have hE8 : Ext W7 W8 := by rw [hW8]; exact Ext.alloc _ _
      have hn8 : W8.heap[W7.heap.size]? = some (.cells #[.int .i64 c, .int .i64 d] 107 (0, 0)) := by rw [hW8]; exact heap_alloc_new _ _
      have hn78 := (hE8.block w6.heap.size (by omega)).trans hn7
      have hE68 := hE7.trans hE8
      have hrg8 := hrg6.kept ⟨hE68.os, hE68.tape, hE68.output, hE68.size, fun k hk _ => hE68.block k hk⟩ (row := none) (by simp) (by simp)
      have HMS := Lib.hid (show W8.rangeLeft b1 w.heap.size < wr.rangeLeft b1 w.heap.size by rw [hrg8.left_eq, HRG.out.left_eq]; exact hlt6)
      have HREL : Hid (LQ b1 w.heap.size m w W8) := ⟨_, _, hrg8, hEw6.trans hE68⟩
      have HSET7 := Lib.hid ((setRow_alloc w6 zeroUsed #[.int .i64 c, .int .i64 d] 107).trans hW7.symm)
      have HNew7 := Lib.hid (heap_alloc_new w6 (.cells zeroUsed 107))
      have HSET8 := Lib.hid ((setRow_alloc W7 zeroUsed #[.int .i64 c, .int .i64 d] 107).trans hW8.symm)
      have HNew8 := Lib.hid (heap_alloc_new W7 (.cells zeroUsed 107))
      rw [hz7] at hn8
      have c60 : W8.cell? ⟨w6.heap.size, 0, none⟩ = some (.int .i64 c) := cell_of_row _ _ _ _ _ _ hn78
      have c61 : W8.cell? ⟨w6.heap.size, 1, none⟩ = some (.int .i64 d) := cell_of_row _ _ _ _ _ _ hn78
      have c70 : W8.cell? ⟨w6.heap.size + 1, 0, none⟩ = some (.int .i64 c) := cell_of_row _ _ _ _ _ _ hn8
      have c71 : W8.cell? ⟨w6.heap.size + 1, 1, none⟩ = some (.int .i64 d) := cell_of_row _ _ _ _ _ _ hn8
      rw [hz7] at HSET8 HNew8
      unfold zeroUsed at HSET7 HNew7 HSET8 HNew8
      clear hrg6 hrg8 hg6 hsz6 hW7 hW8 hE7 hE8 hE68 hEw6 hEw7 hn7 hn8 hn78 h27 hmg hlt6 HRG HE
      go_wp2_with (first | (refine wpList_store_row rfl 107 (.tmp 6) (.tmp 20) rfl w6.heap.size _ rfl rfl 107 _ HNew7.out sizeUsed rfl (by simp [Value.oneCell']) ?_; rw [HSET7.out]) | (refine wpList_store_row rfl 107 (.tmp 7) (.tmp 25) rfl (w6.heap.size + 1) _ rfl rfl 107 _ HNew8.out sizeUsed rfl (by simp [Value.oneCell']) ?_; rw [HSET8.out]))
      go_roundw
      case rel => exact HREL.out
      case measure => exact HMS.out

theorem qequal_any (a1 b1 a2 b2 : Nat) (m : List (Key × Value)) (w : World) (h1 : BookAt w a1 b1 m) (h2 : BookAt w a2 b2 m) (hv : Pairs m) :
    Calls Tryz.prog 42 #[.pointer (some ⟨a1, 0, none⟩), .pointer (some ⟨a2, 0, none⟩)] w (TrueOut w) := by
  have C := Lib.hid fun W hE => mapsEqQ_any b1 b2 m W (h1.ext hE).2 (h2.ext hE).2 hv
  have hc1 : w.cell? ⟨a1, 0, none⟩ = some (.map (some b1)) := cell_of_row _ _ _ _ _ _ h1.1
  have hc2 : w.cell? ⟨a2, 0, none⟩ = some (.map (some b2)) := cell_of_row _ _ _ _ _ _ h2.1
  clear h1 h2 hv
  go_enter Tryz.func42, Tryz.ntmps42
  go_wp2_with fail
  refine wp_region_P (by kernel_rfl) (region_sp 22 [.val (.pointer (some ⟨a1, 0, none⟩)), .val (.pointer (some ⟨a1, 0, none⟩)), .val (.pointer (some ⟨a1, 0, none⟩)), .val (.map (some b1)), .val (.pointer (some ⟨a2, 0, none⟩)), .val (.pointer (some ⟨a2, 0, none⟩)), .val (.pointer (some ⟨a2, 0, none⟩)), .val (.map (some b2)), .val (.bool true), .val (.bool true)] ?stay rfl (by decide) rfl ?duties ?rest)
  case duties =>
    refine ⟨?_, ?_, ?_, ?_, ?_, ?_, ?_, ?_, ?_, ?_, trivial⟩
    · refine duty_free rfl fun a w' hE hF hA => ?_
      have x1 := hF.slot 0 _ (by decide) rfl
      exact wp_value (w' := w') (ex_move rfl) ⟨_, rfl, x1, Ext.refl _⟩
    · refine duty_free rfl fun a w' hE hF hA => ?_
      have x1 := hA.pick 0 13 (.pointer (some ⟨a1, 0, none⟩)) rfl rfl ⟨⟨0, .data⟩, by simp, rfl, rfl⟩ (fun u h => h)
      exact wp_value (ex_nilCheck rfl _ x1) ⟨_, rfl, rfl, Ext.refl _⟩
    · refine duty_free rfl fun a w' hE hF hA => ?_
      have x1 := hA.pick 1 14 (.pointer (some ⟨a1, 0, none⟩)) rfl rfl ⟨⟨1, .data⟩, by simp, rfl, rfl⟩ (fun u h => h)
      exact wp_value (w' := w') (v := .pointer (some ⟨a1, 0, none⟩)) (by simp only [execOp, x1]; simp [go_sem]) ⟨_, rfl, rfl, Ext.refl _⟩
    · refine duty_free rfl fun a w' hE hF hA => ?_
      have x1 := hA.pick 2 15 (.pointer (some ⟨a1, 0, none⟩)) rfl rfl ⟨⟨2, .data⟩, by simp, rfl, rfl⟩ (fun u h => h)
      exact wp_value (ex_cell rfl _ _ x1 ((hE.cell (World.block_lt_of_cell? _ _ hc1)).trans hc1) rfl Tryz.underlying163) ⟨_, rfl, rfl, Ext.refl _⟩
    · refine duty_free rfl fun a w' hE hF hA => ?_
      have x1 := hF.slot 1 _ (by decide) rfl
      exact wp_value (w' := w') (ex_move rfl) ⟨_, rfl, x1, Ext.refl _⟩
    · refine duty_free rfl fun a w' hE hF hA => ?_
      have x1 := hA.pick 4 17 (.pointer (some ⟨a2, 0, none⟩)) rfl rfl ⟨⟨4, .data⟩, by simp, rfl, rfl⟩ (fun u h => h)
      exact wp_value (ex_nilCheck rfl _ x1) ⟨_, rfl, rfl, Ext.refl _⟩
    · refine duty_free rfl fun a w' hE hF hA => ?_
      have x1 := hA.pick 5 18 (.pointer (some ⟨a2, 0, none⟩)) rfl rfl ⟨⟨5, .data⟩, by simp, rfl, rfl⟩ (fun u h => h)
      exact wp_value (w' := w') (v := .pointer (some ⟨a2, 0, none⟩)) (by simp only [execOp, x1]; simp [go_sem]) ⟨_, rfl, rfl, Ext.refl _⟩
    · refine duty_free rfl fun a w' hE hF hA => ?_
      have x1 := hA.pick 6 19 (.pointer (some ⟨a2, 0, none⟩)) rfl rfl ⟨⟨6, .data⟩, by simp, rfl, rfl⟩ (fun u h => h)
      exact wp_value (ex_cell rfl _ _ x1 ((hE.cell (World.block_lt_of_cell? _ _ hc2)).trans hc2) rfl Tryz.underlying163) ⟨_, rfl, rfl, Ext.refl _⟩
    · refine duty_free rfl fun a w' hE hF hA => ?_
      have x1 := hA.pick 3 16 (.map (some b1)) rfl rfl ⟨⟨3, .data⟩, by simp, rfl, rfl⟩ (fun u h => h)
      have x2 := hA.pick 7 20 (.map (some b2)) rfl rfl ⟨⟨7, .data⟩, by simp, rfl, rfl⟩ (fun u h => h)
      refine wp_enter (ex_call rfl (enters_f Tryz.func107 (by kernel_rfl) rfl)) (by simp only [List.map_toArray, List.map_cons, List.map_nil, x1, x2]; exact C.out _ hE) ?_
      rintro e w4 ⟨rfl, hb⟩
      exact ⟨_, rfl, _, rfl, rfl, hb⟩
    · refine duty_free rfl fun a w' hE hF hA => ?_
      have x1 := hA.pick 8 21 (.bool true) rfl rfl ⟨⟨8, .data⟩, by simp, rfl, rfl⟩ (fun u h => h)
      exact wp_value (w' := w') (ex_assign rfl) ⟨_, rfl, x1, Ext.refl _⟩
  case stay => trivial
  case rest =>
    intro W5 hE5
    simp only [forS]
    have HE := Lib.hid hE5
    clear hE5 C hc1 hc2
    simp only [filled, List.zip_cons_cons, List.zip_nil_left, List.foldl_cons, List.foldl_nil, Act.put, List.setIfInBounds_toArray, List.set_cons_succ, List.set_cons_zero]
    simp only [Exit.inBlock, Exit.then, Act.put]
    rename_i hK
    refine hK _ _ ?_
    clear hK
    go_wp2
    go_ret
    exact ⟨rfl, HE.out⟩
end Go.Proofs.YthinpbdbhijbgaaGreatDoor
namespace Go.Proofs.YthinpbdbhijbgaaGreatDoor
open Go.RowKit Go.Sort
set_option maxHeartbeats 2000000

theorem atL_fit {M : List (Key × Nd)} (hM : MOk M) {l : List ByteArray} : ∀ n ∈ atL M l, Fit n := fun n hn => (right_fit (hM.at ((atL_mem hM).1 hn).2).2).1
section
variable {B : Nat} {w W : World} {bt br bb bm K : Nat} {M MB : List (Key × Nd)} {k : Int} {n : Nd} {p : Bool} {oa na : Option Addr} {oc nc : Nat}
theorem bk_turn (h : BkAt B w W bt br bb bm K (chgM k n M) M) (hM : MOk M) (hl : M.length ≤ K) (hK : K * 168 ≤ 140737488355328) (hO : NdsAt W.heap.size W oa (atL M (tchL n.path p))) (hN : NdsAt W.heap.size W na (atL (chgM k n M) (tchL n.path p))) :
    Calls Tryz.prog 39 #[.pointer (some ⟨bb, 0, none⟩), .pointer (some ⟨bt, 0, none⟩), .slice oa (atL M (tchL n.path p)).length oc, .slice na (atL (chgM k n M) (tchL n.path p)).length nc] W fun e W' => e = .returned (.int .i64 0) ∧ BkAt B w W' bt br bb bm K (chgM k n M) (chgM k n M) ∧ Chg (· = bm) W W' := by
  obtain ⟨S, R, h1, h2⟩ := h.ex
  have hM' := h1.tree.ok
  have hl' := h1.well.len
  have ok := chg_ok (k := k) hM hM' p
  have t2 := tchL_len n.path p
  have l1 := atL_len M (tchL n.path p)
  have l2 := atL_len (chgM k n M) (tchL n.path p)
  have l3 := useB_length M
  refine (qturn_any S bt bb bm K (chgM k n M) (useB M) _ _ oa na oc nc W h1.tree h1.well.clo (by omega) h.book (fun hs => (h2 bm (.inl hs)).2 rfl) hO hN (atL_fit hM) (atL_fit hM') (by omega) (by omega) (by omega) (fun _ => setJ_chg hM hM' (by omega) p)).mono ?_
  rintro e W' ⟨he, hor⟩
  rcases hor with ⟨hn, _⟩ | ⟨_, hMod, V, left, hlf, hJ, hB⟩
  · exact absurd ok hn
  · rw [turnP_yes ok] at he
    have hV := book_chg hM hM' (by omega) (by omega) p hlf hJ
    rw [hV] at hB
    exact ⟨he, h.mod hMod hB, hMod.chg⟩
theorem bk_rturn (h : BkAt B w W bt br bb bm K (chgM k n M) MB) (hM : MOk M) (hO : NdsAt W.heap.size W oa (atL M (tchL n.path p))) (hN : NdsAt W.heap.size W na (atL (chgM k n M) (tchL n.path p))) :
    Calls Tryz.prog 40 #[.pointer (some ⟨br, 0, none⟩), .slice oa (atL M (tchL n.path p)).length oc, .slice na (atL (chgM k n M) (tchL n.path p)).length nc] W fun e W' => e = .returned (.int .i64 0) ∧ Ext W W' := by
  obtain ⟨S, R, h1, _⟩ := h.ex
  have t2 := tchL_len n.path p
  have l1 := atL_len M (tchL n.path p)
  have l2 := atL_len (chgM k n M) (tchL n.path p)
  have := rturn_any br (chgM k n M) _ _ oa na oc nc W h1.ref.rt h1.tree.ok hO hN (atL_fit hM) (atL_fit h1.tree.ok) (by omega) (by omega)
  rw [turnP_yes (chg_ok hM h1.tree.ok p)] at this
  exact this
theorem bk_same (h : BkAt B w W bt br bb bm K M M) (hK : K * 168 ≤ 140737488355328) : Calls Tryz.prog 41 #[.pointer (some ⟨bb, 0, none⟩), .pointer (some ⟨br, 0, none⟩)] W fun e w' => e = .returned (.bool true) ∧ Ext W w' := by
  obtain ⟨S, R, h1, _⟩ := h.ex
  have hl := h1.well.len
  have hb := h.book
  rw [bookV_use h1.tree.ok] at hb
  exact same10_any W bb bm M _ hb h1.tree.ok (by omega) fun X hX => rbegin_any X br M ((h1.ref.ext hX).rt) h1.tree.ok (by omega)
theorem bk_begin (h : BkAt B w W bt br bb bm K M M) (hK : K * 168 ≤ 140737488355328) : Calls Tryz.prog 34 #[.pointer (some ⟨bt, 0, none⟩)] W (BegOut M W) := by
  obtain ⟨S, R, h1, _⟩ := h.ex
  have hl := h1.well.len
  exact qbegin_any (.pointer (some ⟨bt, 0, none⟩)) ⟨_, rfl⟩ M W h1.tree.ok (fun ga hga => AllsM.of_tree h1.tree (by omega) ga hga) (WeighsM.of_tree h1.tree h1.well.clo (by omega)) (by omega)
theorem bk_equal {kb km : Nat} (h : BkAt B w W bt br bb bm K M M) (hB : BookAt W kb km (usedL M)) : Calls Tryz.prog 42 #[.pointer (some ⟨bb, 0, none⟩), .pointer (some ⟨kb, 0, none⟩)] W (TrueOut W) := by
  obtain ⟨S, R, h1, _⟩ := h.ex
  have hb := h.book
  rw [bookV_use h1.tree.ok] at hb
  exact qequal_any bb bm kb km (usedL M) W hb hB (usedP_pairs _ _)
end
end Go.Proofs.YthinpbdbhijbgaaGreatDoor
namespace Go.Proofs.YthinpbdbhijbgaaGreatDoor
open Go.RowKit Go.Sort
set_option maxHeartbeats 2000000

section
variable {B : Nat} {w W : World} {bt br bb bm K : Nat} {M : List (Key × Nd)}
theorem bk_exc (h : BkAt B w W bt br bb bm K M M) (s : ByteArray) (hs : s.size ≤ 9223372036854775800) (dn db : Int) :
    Calls Tryz.prog 43 #[.pointer (some ⟨bb, 0, none⟩), .pointer (some ⟨bt, 0, none⟩), .string s, .int .i64 dn, .int .i64 db] W fun e w' => e = .returned (.tuple #[.string (excP ((overL M s).find? (overB M dn db))), .bool ((overL M s).find? (overB M dn db)).isSome]) ∧ Ext W w' := by
  obtain ⟨S, R, h1, _⟩ := h.ex
  have hM := h1.tree.ok
  have hb := h.book
  rw [bookV_use hM] at hb
  have hbu : ∀ s n, n ∈ overL M s → usedAt (usedL M) n.path = .agg #[.int .i64 (undK M n.path).length, .int .i64 (bytesK M (undK M n.path))] := fun s n hn => by
    obtain ⟨h1, h2, _⟩ := overL_there hM hn
    unfold usedAt
    rw [used_of hM (show n ∈ begL M from List.mem_filter.2 ⟨List.mem_map.2 ⟨_, mget_some_mem h1, rfl⟩, h2⟩)]
    rfl
  exact (show Calls Tryz.prog 43 #[.pointer (some ⟨bb, 0, none⟩), .pointer (some ⟨bt, 0, none⟩), .string s, .int .i64 dn, .int .i64 db] W (ExcOut (overB M dn db) (overL M s) W) from
    qbExceeds_any _ M W bb bm (usedL M) hb (usedP_pairs _ _) _ _ hbu hM (GetsM.of_tree h1.tree) s hs dn db).mono fun e w' h => exc_out h
theorem bk_rexc (h : BkAt B w W bt br bb bm K M M) (hK : K * 168 ≤ 140737488355328) (s : ByteArray) (hs : s.size ≤ 9223372036854775800) (dn db : Int) (hdn : dn ≤ 9223372036854775807) (hdb : db ≤ 9223372036854775807) :
    Calls Tryz.prog 44 #[.pointer (some ⟨br, 0, none⟩), .string s, .int .i64 dn, .int .i64 db] W fun e w' => e = .returned (.tuple #[.string (excP ((overL M s).find? (overB M dn db))), .bool ((overL M s).find? (overB M dn db)).isSome]) ∧ Ext W w' := by
  obtain ⟨S, R, h1, _⟩ := h.ex
  have hl := h1.well.len
  exact (rExceeds_any W br M h1.ref.rt h1.tree.ok s hs (by omega) dn db).mono fun e w' h => exc_out (exc_congr (rpass_over (s := s) h1.tree.ok (by omega) h1.well.ir hdn hdb) h)
end
end Go.Proofs.YthinpbdbhijbgaaGreatDoor
namespace Go.Proofs.YthinpbdbhijbgaaGreatDoor
open Go.RowKit Go.Sort
set_option maxHeartbeats 4000000
set_option maxRecDepth 100000

end Go.Proofs.YthinpbdbhijbgaaGreatDoor
namespace Go.Proofs.YthinpbdbhijbgaaGreatDoor
open Go.RowKit Go.Sort
set_option maxHeartbeats 8000000
set_option maxRecDepth 100000

def OwnO (L : List Nd) (w : World) (e : Ending) (w' : World) : Prop := ∃ a c, e = .returned (.slice a L.length c) ∧ NdsAt w'.heap.size w' a L ∧ Ext w w'
theorem own10_o (L : List Nd) (a : Option Addr) (c : Nat) (w : World) (hL : NdsAt w.heap.size w a L) (hf : ∀ n ∈ L, Fit n) (hl : L.length * 168 ≤ 140737488355328) : Calls Tryz.prog 38 #[.slice a L.length c] w (OwnO L w) :=
  (own10_any L a c w hL hf hl).mono fun e w' ⟨v, h1, h2, h3⟩ => by
    obtain ⟨a', c', rfl, hN⟩ := h2.nds
    exact ⟨a', c', h1, hN, h3⟩

end Go.Proofs.YthinpbdbhijbgaaGreatDoor
namespace Go.Proofs.YthinpbdbhijbgaaGreatDoor
open Go.RowKit Go.Sort
set_option maxHeartbeats 8000000
set_option maxRecDepth 100000

def zeroCh : Array Value := #[.int .i64 0, .string ⟨#[]⟩, .slice none 0 0, .slice none 0 0, .int .i64 0, .int .i64 0, .int .i64 0, .int .i64 0, .int .i64 0, .int .i64 0, .int .i64 0, .int .i64 0, .int .i32 0, .int .i32 0, .int .i32 0, .bool false, .int .i64 0, .int .i64 0, .bool false]
theorem sizeCh : (Tryz.prog.info? 68).map (·.size) = some 19 := by kernel_rfl
theorem cells_ch (k : Int) (n : Nd) (p : Bool) (d a : Option Addr) (l l' c c' : Nat) : (chC k n p (.slice d l c) (.slice a l' c')).all (·.oneCell') = true := by
  simp [chC, Value.oneCell']
/-- The book that is begun. -/
theorem bk_start {B : Nat} {S R : Nat → Prop} {w W W' : World} {bt br bb bm K : Nat} {M : List (Key × Nd)} (h : Two7 B S R W bt br K M) (hw : Below B w W) (hB : BookAt W' bb bm (usedL M)) (h1 : W.heap.size ≤ bb) (h2 : W.heap.size ≤ bm) (hE : Ext W W') : BkAt B w W' bt br bb bm K M M := by
  refine ⟨⟨S, R, h.ext hE, fun k hk => ?_⟩, by rw [bookV_use h.tree.ok]; exact hB, ⟨Nat.le_trans h.size h1, Nat.le_trans h.size h2⟩, hw.trans (hE.mono h.size)⟩
  have hk2 : k < W.heap.size := by
    rcases hk with hk | hk | hk
    · exact h.tree.bound k hk
    · exact (h.ref.bound k hk).1
    · rw [hk]; exact h.ref.lt
  exact ⟨fun e => by omega, fun e => by omega⟩
theorem bk_both {B : Nat} {w W W0 : World} {bt br bb bm K : Nat} {M : List (Key × Nd)} (h0 : BkAt B w W0 bt br bb bm K M M) (hE : Ext W0 W) (hT : Tabs W) (hB2 : 2 ≤ B) (kk : Int) (n : Nd) (fl : Bool) (da aa : Option Addr) (dc ac : Nat) (hf : Fit n) (hir : Ir n) (hK : (K + 1) * 168 ≤ 140737488355328)
    (hD : Cells B W da (n.data.map u8v)) (hA : Cells B W aa (acCs n.acl)) :
    Calls Tryz.prog 37 #[.pointer (some ⟨bt, 0, none⟩), .pointer (some ⟨br, 0, none⟩), .agg (chC kk n fl (.slice da n.data.length dc) (.slice aa n.acl.length ac))] W fun e W' => e = .returned (.bool true) ∧ BkAt B w W' bt br bb bm (K + 1) (chgM kk n M) M ∧ ∃ C, Chg C W W' ∧ ∀ k, C k → k < W0.heap.size := by
  have h := h0.ext hE
  obtain ⟨S, R, h1, h2⟩ := h0.ex
  have hS : ∀ k, S k ∨ k = br → k < W0.heap.size := fun k hk => by
    rcases hk with hk | hk
    · exact h1.tree.bound k hk
    · rw [hk]; exact h1.ref.lt
  refine (turn10_any B S R W bt br K M (h1.ext hE) kk n fl da aa dc ac hT hB2 hf hir hK hD hA).mono ?_
  rintro e W' ⟨rfl, hA7⟩
  refine ⟨rfl, h.turn (h1.ext hE) h2 hA7, _, ?_, hS⟩
  obtain ⟨_, _, _, _, h5⟩ := hA7
  exact h5
theorem bk_nodes {B : Nat} {w W : World} {bt br bb bm K : Nat} {M MB : List (Key × Nd)} (h : BkAt B w W bt br bb bm K M MB) (n : Nd) (p : Bool) (hf : Fit n) (a : Option Addr) (c : Nat) (hL : StrsAt W.heap.size W a (tchL n.path p)) :
    Calls Tryz.prog 36 #[.pointer (some ⟨br, 0, none⟩), .slice a (tchL n.path p).length c] W (NodesOut (atL M (tchL n.path p)) W) := by
  obtain ⟨S, R, h1, _⟩ := h.ex
  have hl := tchL_len n.path p
  refine nodes10_any W br M h1.ref.rt h1.tree.ok _ a c hL (by omega) fun q hq => ?_
  have hp := hf.path
  unfold tchL at hq
  rcases List.mem_cons.1 hq with rfl | hq
  · exact hp
  · split at hq
    · rename_i h
      rw [List.mem_singleton] at hq
      subst hq
      have := (path_split h.2.1 h.2.2).2.2.1
      omega
    · cases hq
theorem bk_ok {B : Nat} {w W : World} {bt br bb bm K : Nat} {M MB : List (Key × Nd)} (h : BkAt B w W bt br bb bm K M MB) : MOk M ∧ M.length ≤ K ∧ bm < W.heap.size := by
  obtain ⟨S, R, h1, _⟩ := h.ex
  exact ⟨h1.tree.ok, h1.well.len, h.book.2.lt⟩
/-- All below Z may have been turned, the rest is as it was. -/
def Rest (Z : Nat) (W W' : World) : Prop := Chg (fun k => k < Z) W W'
theorem Rest.trans {Z : Nat} {a b c : World} (h : Rest Z a b) (k : Rest Z b c) : Rest Z a c := Chg.trans h k fun _ _ h => h
theorem Rest.ext {Z : Nat} {a b : World} (h : Ext a b) : Rest Z a b := Chg.of_ext h
theorem Rest.of {Z : Nat} {a b : World} {C : Nat → Prop} (h : Chg C a b) (hc : ∀ k, C k → k < Z) : Rest Z a b := h.mono fun k _ hk => hc k hk
theorem own_rest {base Z : Nat} {L : List Nd} {a : Option Addr} {c : Nat} {w w' : World} (h : OwnN base L (.slice a L.length c) w) (hR : Rest Z w w') (hz : Z ≤ base) : NdsAt w'.heap.size w' a L := by
  obtain ⟨a', c', e, hN⟩ := h.nds_chg hR fun k hk => Nat.lt_of_lt_of_le hk hz
  cases e; exact hN

theorem qbooks_walk (L : List Nd) (a : Option Addr) (c : Nat) (G : List Cg) (ga : Option Addr) (gc : Nat) (s : ByteArray) (dn db : Int) (w : World) (hT : Tabs w) (hL : NdsAt w.heap.size w a L) (hf : ∀ n ∈ L, Fit n ∧ Ir n) (hl : L.length ≤ 1048576)
    (hG : CgsAt w.heap.size w ga G) (hgf : ∀ c ∈ G, Fit c.n ∧ Ir c.n) (hgl : G.length ≤ 1048576) (hs : s.size ≤ 9223372036854775800) (hdn : dn ≤ 9223372036854775807) (hdb : db ≤ 9223372036854775807) :
    Calls Tryz.prog 5 #[.slice a L.length c, .slice ga G.length gc, .string s, .int .i64 dn, .int .i64 db] w fun e w' => e = .returned (.bool true) ∧ Below w.heap.size w w' := by
  have hsz := hT.size
  have C1 := Lib.hid (laid10_two L a c w hT hL hf (by omega))
  have HT := Lib.hid hT
  have HG := Lib.hid hG
  have HGF := Lib.hid hgf
  have HS := Lib.hid hs
  have HDN := Lib.hid hdn
  have HDB := Lib.hid hdb
  clear hL hf hT hG hgf hs hdn hdb
  go_enter Tryz.func5, Tryz.ntmps5
  go_wp2_with fail
  refine C1.out.mono ?_
  intro e W1 hout
  unfold LaidTwo at hout
  cases hfr : fromN L with
  | error x =>
    rw [hfr] at hout
    obtain ⟨rfl, hE1⟩ := hout
    have hE1 : Ext w W1 := hE1
    have C2 := Lib.hid (live10_any W1 (HT.out.below hE1 hsz))
    have HE1 := Lib.hid hE1
    clear C1 hE1 hfr
    go_wp2_with fail
    refine C2.out.mono ?_
    rintro e W2 ⟨rfl, hE2⟩
    have HFIN : Hid (Ext w W2) := HE1.out.trans hE2
    clear C2 hE2
    go_wp2
    go_ret
    exact ⟨rfl, HFIN.out⟩
  | ok M0 =>
    rw [hfr] at hout
    obtain ⟨bt, br, S, R, rfl, h27, hE1⟩ := hout
    have hE1 : Ext w W1 := hE1
    have C2 := Lib.hid (live10_any W1 (HT.out.below hE1 hsz))
    have H27 := Lib.hid h27
    have HE1 := Lib.hid hE1
    clear C1 hE1 hfr h27
    go_wp2_with fail
    refine C2.out.mono ?_
    rintro e W2 ⟨rfl, hE2⟩
    have h27 := H27.out.ext hE2
    have hml := h27.well.len
    have C3 := Lib.hid (qbegin_any (.pointer (some ⟨bt, 0, none⟩)) ⟨_, rfl⟩ M0 W2 h27.tree.ok (fun ga hga => AllsM.of_tree h27.tree (by omega) ga hga) (WeighsM.of_tree h27.tree h27.well.clo (by omega)) (by omega))
    have H27 := Lib.hid h27
    have HE2 := Lib.hid (HE1.out.trans hE2)
    clear C2 hE2 h27
    go_wp2_with fail
    refine C3.out.mono ?_
    rintro e W3 ⟨bb, bm, rfl, hB3, hb1, hb2, hE3⟩
    have HB : Hid (BkAt w.heap.size w W3 bt br bb bm (L.length + 0) M0 M0) := bk_start H27.out HE2.out hB3 hb1 hb2 hE3
    clear C3 hB3 hb1 hb2 hE3 H27 HE2 HE1 hml
    go_wp2
    go_loopw [15] (fun i wr => ∃ (k : Nat) (M : List (Key × Nd)), k ≤ G.length ∧ i = .int .i64 k ∧ Hid (BkAt w.heap.size w wr bt br bb bm (L.length + k) M M)) (fun i _ => G.length - (intOf i).toNat)
    case atStart => exact ⟨0, M0, Nat.zero_le _, rfl, HB.out⟩
    case round =>
      obtain ⟨k, M, hk, rfl, HR⟩ := hrel
      have hwr := HR.out.bel.size
      by_cases hlt : k < G.length
      · obtain ⟨b, off, da, dc, aa, ac, rfl, hb, hD, hA, hc⟩ := HG.out k G[k] (List.getElem?_eq_getElem hlt)
        obtain ⟨hfc, hic⟩ := HGF.out G[k] (List.getElem_mem hlt)
        generalize G[k] = g at *
        obtain ⟨kd, n, fl⟩ := g
        simp only at hD hA hc hfc hic
        have hcr : ∀ j u, (chC kd n fl (.slice da n.data.length dc) (.slice aa n.acl.length ac))[j]? = some u → wr.cell? ((⟨b, off + k * 19, none⟩ : Addr).add j) = some u := fun j u hj => by
          rw [addr_add, HR.out.bel.cell (p := ⟨b, off + k * 19 + j, none⟩) hb]; exact hc j u hj
        obtain ⟨X1, hX1⟩ : ∃ X1, X1 = wr.alloc (.cells (chC kd n fl (.slice da n.data.length dc) (.slice aa n.acl.length ac)) 68) := ⟨_, rfl⟩
        have HSET1 := Lib.hid ((setRow_alloc wr zeroCh (chC kd n fl (.slice da n.data.length dc) (.slice aa n.acl.length ac)) 68).trans hX1.symm)
        have HNEW1 := Lib.hid (heap_alloc_new wr (.cells zeroCh 68))
        have hE1 : Ext wr X1 := by rw [hX1]; exact Ext.alloc _ _
        have hb1 : X1.heap[wr.heap.size]? = some (.cells (chC kd n fl (.slice da n.data.length dc) (.slice aa n.acl.length ac)) 68 (0, 0)) := by rw [hX1]; exact heap_alloc_new wr _
        have CP := Lib.hid (paths10_any kd n fl da aa dc ac hfc X1)
        have HC := Lib.hid hcr
        have HB1 := Lib.hid hb1
        have HZ1 := Lib.hid (show X1.heap.size = wr.heap.size + 1 by rw [hX1]; simp)
        have HE1 := Lib.hid hE1
        have HFC := Lib.hid hfc
        have HIC := Lib.hid hic
        have HD := Lib.hid hD
        have HA := Lib.hid hA
        unfold chC at HC HSET1 CP HB1
        unfold zeroCh at HSET1 HNEW1
        clear hcr hc hb1 hX1 hE1 hfc hic hD hA HG HGF
        go_wp2_with (first | (refine wpList_load_at rfl 68 (.tmp 49) rfl _ rfl _ _ HC.out Tryz.underlying68 rfl sizeCh ?_) | (refine wpList_store_row rfl 68 (.tmp 16) (.tmp 50) rfl wr.heap.size _ rfl rfl 68 _ HNEW1.out sizeCh rfl (cells_ch kd n fl da aa _ _ dc ac) ?_; rw [HSET1.out]) | (refine wpList_load_row rfl 68 (.tmp 16) rfl wr.heap.size rfl 68 _ (0, 0) _ HB1.out Tryz.underlying68 rfl sizeCh ?_))
        refine CP.out.mono ?_
        rintro e X2 ⟨ta, tc, rfl, hst, hE2⟩
        have hE2 : Ext X1 X2 := hE2
        have hE02 := HE1.out.trans hE2
        have CN := Lib.hid (bk_nodes (HR.out.ext hE02) n fl HFC.out ta tc hst.at)
        have HB2 := Lib.hid ((hE2.block wr.heap.size (by rw [HZ1.out]; omega)).trans HB1.out)
        have HST := Lib.hid hst
        have HE2 := Lib.hid hE2
        have HF2 := Lib.hid hE02
        clear CP hE2 hE02 hst HC HSET1 HNEW1
        go_wp2_with fail
        refine CN.out.mono ?_
        rintro e X3 ⟨v3, rfl, hown, hE3⟩
        obtain ⟨oa, oc, rfl, _⟩ := hown.nds
        have hE3 : Ext X2 X3 := hE3
        have hF3 := HF2.out.trans hE3
        have hB3 := (hE3.block wr.heap.size (Array.getElem?_eq_some_iff.1 HB2.out).1).trans HB2.out
        have hX3 := HR.out.bel.trans (hF3.mono hwr)
        have CT := Lib.hid (bk_both HR.out hF3 (HT.out.below hX3 hsz) hsz kd n fl da aa dc ac HFC.out HIC.out (by omega) ((HD.out.below hX3)) (HA.out.below hX3))
        have HB3 := Lib.hid hB3
        have HE3 := Lib.hid hE3
        have HOWN := Lib.hid hown
        have HR3 := Lib.hid (HR.out.ext hF3)
        unfold chC at HB3 CT
        clear CN hE3 hF3 hB3 hX3 hown HB2
        go_wp2_with (refine wpList_load_row rfl 68 (.tmp 16) rfl wr.heap.size rfl 68 _ (0, 0) _ HB3.out Tryz.underlying68 rfl sizeCh ?_)
        refine CT.out.mono ?_
        rintro e X4 ⟨rfl, hB4, C4, hC4, hC4b⟩
        have hr4 : Rest wr.heap.size X3 X4 := Rest.of hC4 hC4b
        have hr24 := (Rest.ext HE3.out).trans hr4
        have hst4 := HST.out.chg hr24 fun k hk => Nat.lt_of_lt_of_le hk HE1.out.size
        have CM := Lib.hid (bk_nodes hB4 n fl HFC.out ta tc hst4.at)
        have HB4 := Lib.hid hB4
        have HR34 := Lib.hid hr4
        have hok := bk_ok HR.out
        have HOK := Lib.hid hok.1
        have HML := Lib.hid hok.2.1
        have HBM := Lib.hid hok.2.2
        have hz3 := (HE1.out.trans (HE2.out.trans HE3.out)).size
        have hz34 := hr4.size
        clear CT hB4 hC4 hC4b hr4 hr24 hst4 HB3 HR3 hok
        go_wp2_with fail
        refine CM.out.mono ?_
        rintro e X5 ⟨v5, rfl, hown5, hE5⟩
        obtain ⟨na, nc, rfl, hN5⟩ := hown5.nds
        have hE5 : Ext X4 X5 := hE5
        have C6 := Lib.hid (own10_o _ na nc X5 hN5 (atL_fit (bk_ok HB4.out).1) (by have := atL_len (chgM kd n M) (tchL n.path fl); have := tchL_len n.path fl; omega))
        have HOWN5 := Lib.hid hown5
        have HE5 := Lib.hid hE5
        clear CM hE5 hN5 hown5
        go_wp2_with fail
        refine C6.out.mono ?_
        rintro e X6 ⟨ma, mc, rfl, hM6, hE6⟩
        have hE6 : Ext X5 X6 := hE6
        have hr6 : Rest wr.heap.size X3 X6 := HR34.out.trans (Rest.ext (HE5.out.trans hE6))
        have C7 := Lib.hid (own10_o _ oa oc X6 (own_rest HOWN.out hr6 (HF2.out.size)) (atL_fit HOK.out) (by have := atL_len M (tchL n.path fl); have := tchL_len n.path fl; omega))
        have HM6 := Lib.hid hM6
        have HE6 := Lib.hid hE6
        have HR36 := Lib.hid hr6
        clear C6 hE6 hM6 hr6
        go_wp2_with fail
        refine C7.out.mono ?_
        rintro e X7 ⟨pa, pc, rfl, hP7, hE7⟩
        have hE7 : Ext X6 X7 := hE7
        have hE47 := HE5.out.trans (HE6.out.trans hE7)
        have C8 := Lib.hid (bk_turn (oc := pc) (nc := mc) (HB4.out.ext hE47) HOK.out (by have := HML.out; omega) (by omega) hP7 (HM6.out.ext hE7))
        have HR37 := Lib.hid (HR36.out.trans (Rest.ext hE7))
        have HE57 := Lib.hid (HE6.out.trans hE7)
        clear C7 hE7 hE47 hP7 HM6 HE6 HR36
        go_wp2_with fail
        refine C8.out.mono ?_
        rintro e X8 ⟨rfl, hB8, hC8⟩
        have hr78 : Rest wr.heap.size X7 X8 := Rest.of hC8 fun k hk => by rw [hk]; exact HBM.out
        have hr38 := HR37.out.trans hr78
        have hr58 := (Rest.ext HE57.out).trans hr78
        have CNO := Lib.hid (no10_any 0 X8)
        have C9 := Lib.hid (bk_rturn (oa := oa) (oc := oc) (na := na) (nc := nc) hB8 HOK.out (own_rest HOWN.out hr38 HF2.out.size) (own_rest HOWN5.out hr58 (by omega)))
        have HB8 := Lib.hid hB8
        clear C8 hB8 hC8 hr78 hr38 hr58 HR37 HE57
        go_wp2_with fail
        refine CNO.out.mono ?_
        rintro e X8' ⟨rfl, rfl⟩
        go_wp2_with fail
        refine C9.out.mono ?_
        rintro e X9 ⟨rfl, hE9⟩
        have hB9 := HB8.out.ext hE9
        have C10 := Lib.hid (bk_same hB9 (by omega))
        have HB9 := Lib.hid hB9
        clear CNO C9 hE9 hB9 HB8
        go_wp2_with fail
        refine C10.out.mono ?_
        rintro e X10 ⟨rfl, hE10⟩
        have hB10 := HB9.out.ext hE10
        have C11 := Lib.hid (bk_begin hB10 (by omega))
        have HB10 := Lib.hid hB10
        clear C10 hE10 hB10 HB9
        go_wp2_with fail
        refine C11.out.mono ?_
        rintro e X11 ⟨kb, km, rfl, hK11, _, _, hE11⟩
        have hB11 := HB10.out.ext hE11
        have C12 := Lib.hid (bk_equal hB11 hK11)
        have HB11 := Lib.hid hB11
        clear C11 hE11 hB11 hK11 HB10
        go_wp2_with fail
        refine C12.out.mono ?_
        rintro e X12 ⟨rfl, hE12⟩
        have hB12 := HB11.out.ext hE12
        have C13 := Lib.hid (bk_exc hB12 s HS.out dn db)
        have HB12 := Lib.hid hB12
        clear C12 hE12 hB12 HB11
        generalize hex : excP ((overL (chgM kd n M) s).find? (overB (chgM kd n M) dn db)) = ep at *
        generalize hei : ((overL (chgM kd n M) s).find? (overB (chgM kd n M) dn db)).isSome = ei at *
        go_wp2_with fail
        refine C13.out.mono ?_
        rintro e X13 ⟨rfl, hE13⟩
        have hB13 := HB12.out.ext hE13
        have C14 := Lib.hid (bk_rexc hB13 (by omega) s HS.out dn db HDN.out HDB.out)
        rw [hex, hei] at C14
        have HB13 := Lib.hid hB13
        clear C13 hE13 hB13 HB12 hex hei
        go_wp2_with fail
        refine C14.out.mono ?_
        rintro e X14 ⟨rfl, hE14⟩
        have hB14 : BkAt w.heap.size w X14 bt br bb bm (L.length + (k + 1)) (chgM kd n M) (chgM kd n M) := HB13.out.ext hE14
        have HB14 := Lib.hid hB14
        generalize chgM kd n M = M' at *
        clear C14 hE14 hB14 HB13
        go_wp2
        go_roundw
        case rel => exact ⟨k + 1, M', by omega, by go_num, HB14.out⟩
        case measure => simp [intOf]; omega
      · obtain rfl : k = G.length := by omega
        have HFIN := Lib.hid HR.out.bel
        clear HR
        go_wp2
        go_ret
        exact ⟨rfl, HFIN.out⟩
end Go.Proofs.YthinpbdbhijbgaaGreatDoor
