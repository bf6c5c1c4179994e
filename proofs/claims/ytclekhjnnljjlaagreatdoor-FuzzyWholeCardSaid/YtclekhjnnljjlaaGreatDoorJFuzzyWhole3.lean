/- The walks of package acl, on: decimal numbers, addresses, identities. What the row FuzzyWhole lists, read. Maps keyed by strings, as lists of keys and values in order: what each operation on a map makes of the list. Plain laws on the parent and the last part of a path. No program in sight. The tree as a list of nodes in order of their paths, and its children's names: plain laws. The walks of the copies of a node's two slices. The walks of stat.Clone and stat.New. -/
import Derived.Test.YtclekhjnnljjlaaGreatDoorJFuzzyWhole2
import Derived.Lib.SmallJoins
import Derived.Test.YtclekhjnnljjlaaGreatDoorRows
import Derived.Lib.LaidTab
import Derived.LaidLaws
import Derived.ProofKit
import Derived.LaidMore
import Derived.Lib.LaidU8
import GoSem.PinnedTables
import Derived.Test.YtclekhjnnljjlaaGreatDoorJFuzzyWhole1
import Derived.Maps.Range
import Derived.Lib.LastIndexByte
import Derived.WideAt
namespace Go.Proofs.YtclekhjnnljjlaaGreatDoor
open Go.RowKit Go.Lib
set_option maxHeartbeats 2000000
set_option maxRecDepth 100000

theorem ext_grow6 (w : World) (k : Nat) (os : Array Obj) : Ext w (Go.Sort.grow (w.drewN k) os) :=
  ⟨rfl, rfl, rfl, by simp [Go.Sort.grow, World.drewN], fun b hb => by
    show ((w.drewN k).heap ++ os)[b]? = _
    exact Array.getElem?_append_left hb⟩
/-- The table of powers that a number's text is made with. -/
def Tab6 (w : World) : Prop := Lib.TabIs Tryz.prog w "internal/strconv.uint64pow10" .u64 Lib.pow10Tab
theorem tab6_global : Tryz.prog.globalNamed "internal/strconv.uint64pow10" = some 5 := by kernel_rfl
theorem Tab6.ext {w w' : World} (h : Tab6 w) (hE : Ext w w') : Tab6 w' := by
  unfold Tab6 Lib.TabIs World.var? at h ⊢
  rw [tab6_global] at h ⊢
  simp only [Option.bind_some] at h ⊢
  have hlt : 5 < w.heap.size := by
    rcases Nat.lt_or_ge 5 w.heap.size with h' | h'
    · exact h'
    · rw [Array.getElem?_eq_none h'] at h; cases h
  rw [hE.block _ hlt]
  exact h
/-- What holds an error's text, or none. -/
def ErrC (w : World) (g : Nat) : Prop := ∃ ev, w.cell? ⟨g, 0, none⟩ = some ev ∧ (ev = .nilIface ∨ ∃ te pe, ev = .iface te pe)
theorem ErrC.ext {w w' : World} {g : Nat} (h : ErrC w g) (hE : Ext w w') : ErrC w' g := by
  obtain ⟨ev, h1, h2⟩ := h
  exact ⟨ev, (hE.cell (World.block_lt_of_cell? _ _ h1)).trans h1, h2⟩
def MaxC (w : World) : Prop := ∃ m : Int, w.cell? ⟨2, 0, none⟩ = some (.int .i64 m)
theorem MaxC.ext {w w' : World} (h : MaxC w) (hE : Ext w w') : MaxC w' := by
  obtain ⟨m, h1⟩ := h
  exact ⟨m, (hE.cell (World.block_lt_of_cell? _ _ h1)).trans h1⟩
/-- What the calls of strings and strconv read. -/
structure Txt6 (w : World) : Prop where
  tab : Tab6 w
  max : MaxC w
  syn : ErrC w 3
  rng : ErrC w 4
theorem Txt6.ext {w w' : World} (h : Txt6 w) (hE : Ext w w') : Txt6 w' := ⟨h.tab.ext hE, h.max.ext hE, h.syn.ext hE, h.rng.ext hE⟩

/-- strconv.Atoi. -/
def AInt (l : List UInt8) (e : Ending) : Prop :=
  ∃ (v : Int) (ev : Value), e = .returned (.tuple #[.int .i64 v, ev]) ∧ (-9223372036854775808 ≤ v ∧ v ≤ 9223372036854775807) ∧ ((ev = .nilIface ∧ atoiAll l = .ok v) ∨ ((∃ p, ev = .iface 283 p) ∧ ∀ x, atoiAll l ≠ .ok x))
theorem atoi_any (s : ByteArray) (w : World) (hs : s.size ≤ 281474976710656) (hT : Txt6 w) :
    Calls Tryz.prog 168 #[.string s] w fun e w' => AInt s.data.toList e ∧ Ext w w' := by
  rcases h : atoiAll s.data.toList with v | _ | _
  · refine (Tryz.strconv_Atoi_ok s (by omega) v h w).mono fun e w' ⟨he, hw⟩ => ⟨⟨v, .nilIface, he, atoiAll_bounds h, .inl ⟨rfl, h⟩⟩, ?_⟩
    rcases hw with rfl | ⟨t, rfl⟩
    · exact Ext.refl _
    · exact Go.Joins.below_bytesWorld _ _ _ _ (Nat.le_refl _)
  · obtain ⟨ev, h1, h2⟩ := hT.syn
    refine (Tryz.strconv_Atoi_syntax s hs h ev w h1 h2).mono fun e w' ⟨n, he, _, _, hb⟩ => ⟨⟨0, _, he, by decide, .inr ⟨⟨_, rfl⟩, fun x hx => by rw [h] at hx; cases hx⟩⟩, hb⟩
  · obtain ⟨ev, h1, h2⟩ := hT.rng
    have hb0 := atoiSat_bounds s.data.toList
    refine (Tryz.strconv_Atoi_range s hs h ev w h1 h2).mono fun e w' ⟨n, he, _, _, hb⟩ => ⟨⟨_, _, he, ⟨by omega, by omega⟩, .inr ⟨⟨_, rfl⟩, fun x hx => by rw [h] at hx; cases hx⟩⟩, hb⟩
theorem decP_no {l : List UInt8} {most : Nat} (h : ∀ x, atoiAll l ≠ .ok x) : decP l most = -1 := by
  unfold decP
  split
  · rename_i h1; exact absurd h1 (h _)
  · rfl
theorem decP_ok {l : List UInt8} {most : Nat} {v : Int} (h : atoiAll l = .ok v) : decP l most = if v < 0 ∨ (most : Int) < v ∨ itoa v ≠ l then -1 else v := by
  unfold decP
  rw [h]

theorem decimal6_any (s : ByteArray) (most : Nat) (hm : most ≤ 999) (w : World) (hs : s.size ≤ 281474976710656) (hT : Txt6 w) :
    Calls Tryz.prog 138 #[.string s, .int .i64 most] w fun e w' => e = .returned (.int .i64 (decP s.data.toList most)) ∧ Ext w w' := by
  have C1 := atoi_any s w hs hT
  go_enter Tryz.func138, Tryz.ntmps138
  go_wp2_with fail
  refine C1.mono ?_
  rintro e w1 ⟨⟨v, ev, rfl, hv, hc⟩, hE⟩
  clear C1
  rcases hc with ⟨rfl, ha⟩ | ⟨⟨p, rfl⟩, hn⟩
  · have HD := Lib.hid (decP_ok (most := most) ha)
    clear ha
    by_cases h1 : v < 0
    · have H : Hid (decP s.data.toList most = -1) := by unfold Hid; rw [HD.out, if_pos (.inl h1)]
      go_wp2
      go_ret
      exact ⟨by rw [H.out]; rfl, hE⟩
    by_cases h2 : (most : Int) < v
    · have H : Hid (decP s.data.toList most = -1) := by unfold Hid; rw [HD.out, if_pos (.inr (.inl h2))]
      go_wp2
      go_ret
      exact ⟨by rw [H.out]; rfl, hE⟩
    have C2 := Tryz.strconv_Itoa v hv.1 hv.2 w1 (hT.tab.ext hE)
    go_wp2_with fail
    refine C2.mono ?_
    rintro e w2 ⟨rfl, k, os, rfl⟩
    clear C2
    have hE2 : Ext w (Go.Sort.grow (w1.drewN k) os) := hE.trans (ext_grow6 _ _ _)
    have d1 : decide (v < 0) = false := decide_eq_false (by omega)
    have d2 : decide ((most : Int) < v) = false := decide_eq_false (by omega)
    by_cases h3 : itoa v = s.data.toList
    · have H : Hid (decP s.data.toList most = v) := by
        unfold Hid
        rw [HD.out, if_neg]
        rintro (h | h | h)
        · omega
        · omega
        · exact h h3
      have hq : ((⟨(itoa v).toArray⟩ : ByteArray).toList == s.toList) = true := by
        rw [ByteArray.toList_eq, ByteArray.toList_eq]; simp [h3]
      clear HD h3 h1 h2
      generalize (⟨(itoa v).toArray⟩ : ByteArray) = t at hq ⊢
      go_wp2
      go_ret
      exact ⟨by rw [H.out]; rfl, hE2⟩
    · have H : Hid (decP s.data.toList most = -1) := by unfold Hid; rw [HD.out, if_pos (.inr (.inr h3))]
      have hq : ((⟨(itoa v).toArray⟩ : ByteArray).toList == s.toList) = false := by
        rw [ByteArray.toList_eq, ByteArray.toList_eq]; simpa using h3
      clear HD h3 h1 h2
      generalize (⟨(itoa v).toArray⟩ : ByteArray) = t at hq ⊢
      go_wp2
      go_ret
      exact ⟨by rw [H.out]; rfl, hE2⟩
  · have H : Hid (decP s.data.toList most = -1) := decP_no hn
    clear hn
    go_wp2
    go_ret
    exact ⟨by rw [H.out]; rfl, hE⟩
end Go.Proofs.YtclekhjnnljjlaaGreatDoor
namespace Go.Proofs.YtclekhjnnljjlaaGreatDoor
open Go.ChangeShapes Go.WideShapes Go.ChangeAt Go.RowKit Go.Lib Go.Deep
set_option maxHeartbeats 2000000
set_option maxRecDepth 100000

/-- What the row lists. -/
def laidF : List (String × DataW Unit) := Rows.fuzzyWholeRow.laid
theorem errC_of_reads {w : World} {n name : String} {d : DataW Unit} {g : Nat} (h : VarReads Tryz.prog w n (.iface name d)) (hg : Tryz.prog.globalNamed n = some g) (ht : (Tryz.prog.globals[g]?).map (·.type) = some 239) : ErrC w g := by
  obtain ⟨g', t, cs, fuel, p, hg', hty, hvar, hd⟩ := h
  obtain rfl := Option.some.inj (hg.symm.trans hg')
  obtain rfl := Option.some.inj (ht.symm.trans hty)
  have hx := iface_of_trod Tryz.underlying239 hd
  have hc := World.var?_cell hg hvar 0
  obtain ⟨_, u, v, hcs, _⟩ := hx
  rw [← Array.getElem?_toList, hcs] at hc
  exact ⟨_, hc, .inr ⟨_, _, rfl⟩⟩
theorem tab6_of_reads {w : World} (h : VarReads Tryz.prog w "internal/strconv.uint64pow10" (Lib.tabData .u64 Lib.pow10Tab)) : Tab6 w := by
  obtain ⟨g, t, cs, fuel, p, hg, hty, hvar, hd⟩ := h
  obtain rfl := Option.some.inj ((show Tryz.prog.globalNamed "internal/strconv.uint64pow10" = some 5 by kernel_rfl).symm.trans hg)
  obtain rfl := Option.some.inj ((show (Tryz.prog.globals[5]?).map (·.type) = some 305 by kernel_rfl).symm.trans hty)
  unfold Tab6 Lib.TabIs
  rw [hvar, ← cells_of_tab Tryz.underlying305 Tryz.underlying210 (by kernel_rfl) (by kernel_rfl) hd]
theorem pow10_eqF : (Rows.laid_internal_strconv_uint64pow10 : DataW Unit) = Lib.tabData .u64 Lib.pow10Tab := by kernel_rfl
theorem txt6_of_laid {W : World} (h : laidMetH Tryz.prog laidF W) (hs : W.ShapedOpen Tryz.prog) : Txt6 W ∧ Tabs W := by
  rw [MakeChecks.laidMetH_plain _ _ _ (by kernel_rfl)] at h
  have hh := fun n d hm => Lib.laidMet.reads h (n := n) (d := d) hm
  unfold laidF Rows.fuzzyWholeRow at hh
  simp only [List.mem_cons, List.not_mem_nil, or_false, Prod.mk.injEq] at hh
  refine ⟨⟨tab6_of_reads (pow10_eqF ▸ hh _ _ (.inr (.inr (.inl ⟨rfl, rfl⟩)))), ?_, ?_, ?_⟩, tabs_of_reads (utf8First_eq ▸ hh _ _ (.inr (.inr (.inr (.inr (.inr (.inr ⟨rfl, rfl⟩))))))) (hh _ _ (.inr (.inr (.inr (.inl ⟨rfl, rfl⟩)))))⟩
  · exact Tryz.laysM145.s1_3 W hs
  · exact errC_of_reads (hh _ _ (.inr (.inr (.inr (.inr (.inr (.inl ⟨rfl, rfl⟩))))))) (by kernel_rfl) (by kernel_rfl)
  · exact errC_of_reads (hh _ _ (.inr (.inr (.inr (.inr (.inl ⟨rfl, rfl⟩)))))) (by kernel_rfl) (by kernel_rfl)
end Go.Proofs.YtclekhjnnljjlaaGreatDoor
namespace Go.Proofs.YtclekhjnnljjlaaGreatDoor
open Go.RowKit Go.Maps
open Go.ChangeMaps (notKey putKey delKey)
open Go.WideElems (Fit rd rg pl rd_key rd_val rg_of)

section lists
variable {α β : Type}
abbrev Key := List UInt8

def mget (m : List (Key × α)) (k : Key) : Option α := (m.find? fun x => x.1 == k).map (·.2)
def mins (x : Key × α) : List (Key × α) → List (Key × α)
  | [] => [x]
  | y :: r => if bytesBefore x.1 y.1 then x :: y :: r else y :: mins x r
def mdel (m : List (Key × α)) (k : Key) : List (Key × α) := m.filter fun x => !(x.1 == k)
def mput (m : List (Key × α)) (k : Key) (v : α) : List (Key × α) := mins (k, v) (mdel m k)
def MSorted (m : List (Key × α)) : Prop := m.Pairwise fun x y => bytesBefore x.1 y.1 = true

theorem mem_mins {x y : Key × α} : ∀ {m : List (Key × α)}, y ∈ mins x m ↔ y = x ∨ y ∈ m
  | [] => by simp [mins]
  | z :: r => by
    unfold mins
    split
    · simp
    · simp only [List.mem_cons, mem_mins (m := r)]
      constructor
      · rintro (h | h | h) <;> simp [h]
      · rintro (h | h | h) <;> simp [h]
theorem mem_mdel {m : List (Key × α)} {k : Key} {x : Key × α} : x ∈ mdel m k ↔ x ∈ m ∧ x.1 ≠ k := by simp [mdel]
theorem mem_mput {m : List (Key × α)} {k : Key} {v : α} {x : Key × α} : x ∈ mput m k v ↔ x = (k, v) ∨ (x ∈ m ∧ x.1 ≠ k) := by
  rw [mput, mem_mins, mem_mdel]
theorem mins_length (x : Key × α) : ∀ m : List (Key × α), (mins x m).length = m.length + 1
  | [] => rfl
  | y :: r => by unfold mins; split <;> simp [mins_length x r]

theorem mins_sorted {x : Key × α} : ∀ {m : List (Key × α)}, MSorted m → (∀ y ∈ m, y.1 ≠ x.1) → MSorted (mins x m)
  | [], _, _ => by simp [mins, MSorted]
  | y :: r, h, hne => by
    obtain ⟨h1, h2⟩ := List.pairwise_cons.1 h
    unfold mins
    split
    · rename_i hb
      refine List.pairwise_cons.2 ⟨fun z hz => ?_, h⟩
      rcases List.mem_cons.1 hz with rfl | hz
      · exact hb
      · exact WideShapes.bytes_trans _ _ _ hb (h1 z hz)
    · rename_i hb
      have hyx : bytesBefore y.1 x.1 = true := by
        rcases WideAt.bytes_total _ _ (hne y (by simp)).symm with h' | h'
        · exact absurd h' hb
        · exact h'
      refine List.pairwise_cons.2 ⟨fun z hz => ?_, mins_sorted h2 fun z hz => hne z (by simp [hz])⟩
      rcases mem_mins.1 hz with rfl | hz
      · exact hyx
      · exact h1 z hz
theorem mdel_sorted {m : List (Key × α)} (h : MSorted m) (k : Key) : MSorted (mdel m k) := h.filter _
theorem mput_sorted {m : List (Key × α)} (h : MSorted m) (k : Key) (v : α) : MSorted (mput m k v) := mins_sorted (mdel_sorted h k) fun _ hy => (mem_mdel.1 hy).2
theorem MSorted.keys_ne {m : List (Key × α)} (h : MSorted m) : m.Pairwise fun x y => x.1 ≠ y.1 :=
  h.imp fun {a b} hb e => by rw [e, WideAt.bytes_irrefl] at hb; cases hb

theorem mget_some_mem {m : List (Key × α)} {k : Key} {v : α} (h : mget m k = some v) : (k, v) ∈ m := by
  unfold mget at h
  obtain ⟨x, hx, rfl⟩ := Option.map_eq_some_iff.1 h
  have h1 := List.find?_some hx
  have h2 := List.mem_of_find?_eq_some hx
  have : x.1 = k := by simpa using h1
  rw [← this]; exact h2
theorem mget_none {m : List (Key × α)} {k : Key} (h : mget m k = none) : ∀ x ∈ m, x.1 ≠ k := by
  unfold mget at h
  intro x hx e
  have := List.find?_eq_none.1 (Option.map_eq_none_iff.1 h) x hx
  simp [e] at this
theorem mget_of_mem {m : List (Key × α)} (h : MSorted m) {k : Key} {v : α} (hm : (k, v) ∈ m) : mget m k = some v := by
  cases hg : mget m k with
  | none => exact absurd rfl (mget_none hg _ hm)
  | some u =>
    have hu := mget_some_mem hg
    obtain ⟨i, hi, ei⟩ := List.getElem_of_mem hm
    obtain ⟨j, hj, ej⟩ := List.getElem_of_mem hu
    have hp := List.pairwise_iff_getElem.1 h.keys_ne
    have : i = j := by
      rcases Nat.lt_trichotomy i j with hlt | he | hlt
      · exact absurd (by rw [ei, ej]) (hp i j hi hj hlt)
      · exact he
      · exact absurd (by rw [ei, ej]) (hp j i hj hi hlt)
    subst this
    rw [ei] at ej
    cases ej; rfl
theorem mget_none_of {m : List (Key × α)} {k : Key} (h : ∀ x ∈ m, x.1 ≠ k) : mget m k = none := by
  unfold mget
  rw [List.find?_eq_none.2 (fun x hx => by simpa using h x hx)]; rfl

theorem mins_map (f : α → β) (x : Key × α) : ∀ m : List (Key × α), (mins x m).map (fun y => (y.1, f y.2)) = mins (x.1, f x.2) (m.map fun y => (y.1, f y.2))
  | [] => rfl
  | y :: r => by
    unfold mins
    simp only [List.map_cons]
    split <;> simp_all [mins_map f x r]
theorem mdel_map (f : α → β) (m : List (Key × α)) (k : Key) : (mdel m k).map (fun y => (y.1, f y.2)) = mdel (m.map fun y => (y.1, f y.2)) k := by
  unfold mdel; rw [List.filter_map]; rfl
theorem mput_map (f : α → β) (m : List (Key × α)) (k : Key) (v : α) : (mput m k v).map (fun y => (y.1, f y.2)) = mput (m.map fun y => (y.1, f y.2)) k (f v) := by
  unfold mput; rw [mins_map, mdel_map]
theorem mget_map (f : α → β) (m : List (Key × α)) (k : Key) : mget (m.map fun y => (y.1, f y.2)) k = (mget m k).map f := by
  unfold mget; rw [List.find?_map]; simp only [Option.map_map]; rfl
end lists

/-- What a map reads as: its keys in order, each with its value. -/
def kvD (m : List (Key × Value)) : DataW Value := .map (m.map fun x => (.string x.1, .held x.2))
def Rv (v : Value) : Option (DataW Value × List MemPlace) := some (.held v, [])

theorem insert_kv (x : Key × Value) : ∀ m : List (Key × Value), DataW.insert (Lit.string x.1, DataW.held x.2) (m.map fun x => (Lit.string x.1, DataW.held x.2)) = (mins x m).map fun x => (Lit.string x.1, DataW.held x.2)
  | [] => rfl
  | y :: r => by
    by_cases h : bytesBefore x.1 y.1 = true <;> simp [DataW.insert, mins, Lit.before, h, insert_kv x r]
theorem filter_kv (k : Key) (m : List (Key × Value)) : (m.map fun x => (Lit.string x.1, DataW.held x.2)).filter (fun p => !p.1.sameKey (.string k)) = (mdel m k).map fun x => (Lit.string x.1, DataW.held x.2) := by
  unfold mdel; rw [List.filter_map]; rfl
theorem kvD_put (m : List (Key × Value)) (k : Key) (v : Value) : (kvD m).put (.string k) (.held v) = kvD (mput m k v) := by
  simp only [kvD, DataW.put, filter_kv, mput]
  rw [insert_kv (k, v)]
theorem kvD_del (m : List (Key × Value)) (k : Key) : (kvD m).del (.string k) = kvD (mdel m k) := by
  simp only [kvD, DataW.del, filter_kv]
theorem find_kv (m : List (Key × Value)) (k : Key) : (m.map fun x => (Lit.string x.1, DataW.held x.2)).find? (fun p => p.1.sameKey (.string k)) = (m.find? fun x => x.1 == k).map fun x => (Lit.string x.1, DataW.held x.2) := by
  rw [List.find?_map]; rfl
theorem kvD_at (m : List (Key × Value)) (k : Key) (z : Value) : (kvD m).atKey (.string k) (.held z) = .held ((mget m k).getD z) := by
  simp only [kvD, DataW.atKey, find_kv, mget]
  cases m.find? fun x => x.1 == k <;> rfl
theorem kvD_has (m : List (Key × Value)) (k : Key) : Maps.has (kvD m) (.string k) = (mget m k).isSome := by
  simp only [kvD, Maps.has, mget, List.any_map, Option.isSome_map]
  induction m with
  | nil => rfl
  | cons x r ih =>
    have e : (Lit.string x.1).sameKey (.string k) = (x.1 == k) := rfl
    simp only [List.any_cons, Function.comp, List.find?_cons, e] at ih ⊢
    cases x.1 == k
    · simpa using ih
    · rfl
section
variable {P : Program} {kt : TypeId} {w : World} {b : Nat} {m : List (Key × Value)}

/-- Block b is a map that holds just these keys and values. -/
def SMap (P : Program) (kt : TypeId) (w : World) (b : Nat) (m : List (Key × Value)) : Prop := w.ownsMap P kt Rv b m.length (kvD m)

theorem SMap.of {n : Nat} (h : w.ownsMap P kt Rv b n (kvD m)) : SMap P kt w b m := by
  obtain ⟨es, clock, hb, F, hs, hD⟩ := h
  refine ⟨es, clock, hb, F, ?_, hD⟩
  simp only [kvD, DataW.map.injEq] at hD
  have := congrArg List.length hD
  rw [length_sorted] at this
  simp at this
  omega
theorem SMap.made (P : Program) (kt : TypeId) (w : World) : SMap P kt (w.alloc (.map #[] 0)) w.heap.size [] := World.ownsMap_made w P kt Rv
theorem SMap.lt (h : SMap P kt w b m) : b < w.heap.size := World.ownsMap.lt h
theorem SMap.keep {w' : World} (h : SMap P kt w b m) (he : w'.heap[b]? = w.heap[b]?) : SMap P kt w' b m := by
  obtain ⟨es, clock, hb, r⟩ := h
  exact ⟨es, clock, he.trans hb, r⟩
theorem SMap.sorted (K : Keyed P kt) (h : SMap P kt w b m) : MSorted m := by
  obtain ⟨es, clock, hb, F, hs, hD⟩ := h
  simp only [kvD, DataW.map.injEq] at hD
  have := Maps.sorted_sorted K.one _ (Maps.fit_keys F) (Maps.fit_apart K F)
  rw [← hD, List.pairwise_map] at this
  exact this
theorem keyOf_s (hk : P.underlying kt = some .string) {s : ByteArray} (hs : s.size ≤ maxLen) : keyOf P kt (.string s) = some (.string s.data.toList) := by
  simp [keyOf, hk, mapKey, hs]
theorem SMap.look {t e : TypeId} (h : SMap P kt w b m) (hk : P.underlying kt = some .string) (ht : P.underlying t = some (.map kt e)) {z : Value} (hz : (zeroValue e).run P w = .ok z w) {s : ByteArray} (hs : s.size ≤ maxLen) :
    (Instr.lookup t (.map (some b)) (.string s) false).run P w = .ok ((mget m s.data.toList).getD z) w := by
  obtain ⟨v, ps, hr, hv⟩ := World.ownsMap.lookup h (string_keyed hk) ht hz (zd := .held z) (zp := []) rfl (keyOf_s hk hs)
  rw [kvD_at] at hv
  simp only [Rv, Option.some.injEq, Prod.mk.injEq, DataW.held.injEq] at hv
  rw [hr, hv.1]
theorem SMap.look_ok {t e : TypeId} (h : SMap P kt w b m) (hk : P.underlying kt = some .string) (ht : P.underlying t = some (.map kt e)) {z : Value} (hz : (zeroValue e).run P w = .ok z w) {s : ByteArray} (hs : s.size ≤ maxLen) :
    (Instr.lookup t (.map (some b)) (.string s) true).run P w = .ok (.tuple #[(mget m s.data.toList).getD z, .bool (mget m s.data.toList).isSome]) w := by
  obtain ⟨v, ps, hr, hv⟩ := World.ownsMap.look_ok h (string_keyed hk) ht hz (zd := .held z) (zp := []) rfl (keyOf_s hk hs)
  rw [kvD_at] at hv
  simp only [Rv, Option.some.injEq, Prod.mk.injEq, DataW.held.injEq] at hv
  rw [hr, hv.1, kvD_has]
theorem SMap.len {t e : TypeId} (h : SMap P kt w b m) (ht : P.underlying t = some (.map kt e)) (ty : TypeId) : (Builtin.len_ #[t] ty #[.map (some b)]).run P w = .ok (.int .i64 m.length) w := by
  have := World.ownsMap.len h ht ty
  simpa [kvD, Maps.size] using this
theorem SMap.store {t e : TypeId} (h : SMap P kt w b m) (hk : P.underlying kt = some .string) (ht : P.underlying t = some (.map kt e)) (hn : m.length < maxLen) {s : ByteArray} (hs : s.size ≤ maxLen) (v : Value) :
    ∃ w', (Instr.mapUpdate t (.map (some b)) (.string s) v).run P w = .ok () w' ∧ SMap P kt w' b (mput m s.data.toList v) ∧ w.mapTurned w' b := by
  obtain ⟨w', hr, ho, ht'⟩ := World.ownsMap.store h (string_keyed hk) ht hn (keyOf_s hk hs) (val := v) (d := .held v) (ps := []) rfl
  rw [kvD_put] at ho
  exact ⟨w', hr, SMap.of ho, ht'⟩
theorem SMap.drop {t e : TypeId} (h : SMap P kt w b m) (hk : P.underlying kt = some .string) (ht : P.underlying t = some (.map kt e)) {s : ByteArray} (hs : s.size ≤ maxLen) (ty : TypeId) :
    ∃ w', (Builtin.delete_ #[t, kt] ty #[.map (some b), .string s]).run P w = .ok (.tuple #[]) w' ∧ SMap P kt w' b (mdel m s.data.toList) ∧ w.mapTurned w' b := by
  obtain ⟨w', hr, ho, ht'⟩ := World.ownsMap.drop h (string_keyed hk) ht (keyOf_s hk hs) ty
  rw [kvD_del] at ho
  exact ⟨w', hr, SMap.of ho, ht'⟩
end
end Go.Proofs.YtclekhjnnljjlaaGreatDoor
namespace Go.Proofs.YtclekhjnnljjlaaGreatDoor
open Go.RowKit

theorem vpath_facts {s : ByteArray} (h : vpath s = true) : 1 ≤ s.size ∧ s.size ≤ 4096 ∧ bat s 0 = 47 ∧ (s.size = 1 ∨ (bat s (s.size - 1) ≠ 47 ∧ scanAt s 0 = true)) := by
  unfold vpath at h
  simp only [Bool.and_eq_true, Bool.or_eq_true, bne_iff_ne, beq_iff_eq, decide_eq_true_eq, ne_eq] at h
  obtain ⟨⟨⟨h1, h2⟩, h3⟩, h4⟩ := h
  exact ⟨by omega, h2, h3, h4.imp id fun h => ⟨h.1, h.2⟩⟩

theorem scan_sep (s : ByteArray) : ∀ (f p : Nat), s.size ≤ p + f → scanAt s p = true → ∀ i, p ≤ i → i < s.size → bat s i = 47 → sep s i = true
  | 0, p, hf, _, i, h1, h2, _ => by omega
  | f + 1, p, hf, h, i, h1, h2, h3 => by
    have hp : p < s.size := by omega
    have d := dec s p hp
    rw [scanAt_step s p hp] at h
    simp only [Bool.and_eq_true] at h
    by_cases e : i = p
    · subst e; exact h.1.2
    · by_cases hlt : i < p + (Utf8.decode s p).2
      · have := d.tail (i - p) (by omega) (by omega)
        rw [show p + (i - p) = i by omega] at this
        omega
      · have := d.pos
        exact scan_sep s f _ (by omega) h.2 i (by omega) h2 h3

theorem vpath_noadj {s : ByteArray} (h : vpath s = true) (i : Nat) (hi : i + 1 < s.size) (h47 : bat s i = 47) : bat s (i + 1) ≠ 47 := by
  obtain ⟨h1, h2, h3, h4⟩ := vpath_facts h
  rcases h4 with h4 | ⟨_, h4⟩
  · omega
  · intro e
    have := scan_sep s s.size 0 (by omega) h4 (i + 1) (by omega) hi e
    unfold sep at this
    rw [e] at this
    simp [h47] at this

/-- The place of the last slash. -/
def lastS (s : ByteArray) : Int := Lib.lastIndexByte s 47
def parentB (s : ByteArray) : ByteArray := s.extract 0 (max (lastS s) 1).toNat
def nameB (s : ByteArray) : ByteArray := s.extract (lastS s + 1).toNat s.size

theorem bat_data (s : ByteArray) (i : Nat) : bat s i = (s.data[i]!).toNat := rfl

theorem lastS_spec {s : ByteArray} (h : vpath s = true) : ∃ i : Nat, lastS s = i ∧ i < s.size ∧ bat s i = 47 ∧ ∀ j, i < j → j < s.size → bat s j ≠ 47 := by
  obtain ⟨h1, _, h3, _⟩ := vpath_facts h
  rcases Lib.lastIndexByte_spec s 47 with ⟨_, hn⟩ | ⟨i, hi, e, hc, hn⟩
  · have := hn 0 (by omega)
    rw [bat_data] at h3
    omega
  · exact ⟨i, e, hi, by rw [bat_data]; omega, fun j h1 h2 h3 => hn j h1 h2 (by rw [bat_data] at h3; omega)⟩

theorem extract_list (s : ByteArray) (i j : Nat) : (s.extract i j).data.toList = (s.data.toList.take j).drop i := by
  rw [ByteArray.data_extract, Array.toList_extract]
  simp [List.extract, List.drop_take]

/-- What stands ahead of a name under a path. -/
def preL (p : ByteArray) : List UInt8 := if p.size = 1 then p.data.toList else p.data.toList ++ [47]

theorem size_list (s : ByteArray) : s.data.toList.length = s.size := Array.length_toList
theorem bat_toList (s : ByteArray) (i : Nat) (h : i < s.size) : s.data.toList[i]'(by simpa using h) = 47 ↔ bat s i = 47 := by
  rw [bat_get s i h, Array.getElem_toList]
  show s[i] = 47 ↔ _
  constructor
  · intro e; rw [e]; rfl
  · intro e; exact UInt8.toNat_inj.1 e

theorem drop_at_slash {s : ByteArray} {i : Nat} (h : i < s.size) (h47 : bat s i = 47) : s.data.toList.drop i = 47 :: s.data.toList.drop (i + 1) := by
  rw [List.drop_eq_getElem_cons (by rw [size_list]; exact h), (bat_toList s i h).2 h47]

/-- A path that is not the root, in its two parts. -/
theorem path_split {s : ByteArray} (h : vpath s = true) (h1 : s.size ≠ 1) : s.data.toList = preL (parentB s) ++ (nameB s).data.toList ∧ (nameB s).size ≠ 0 ∧ (parentB s).size < s.size ∧ ¬ (47 : UInt8) ∈ (nameB s).data.toList := by
  obtain ⟨i, e, hi, h47, hn⟩ := lastS_spec h
  obtain ⟨g1, g2, g3, g4⟩ := vpath_facts h
  have hlast : bat s (s.size - 1) ≠ 47 := by rcases g4 with g4 | g4; exact absurd g4 h1; exact g4.1
  have hil : i + 1 < s.size := by
    rcases Nat.lt_or_ge (i + 1) s.size with h | h
    · exact h
    · exact absurd (show bat s (s.size - 1) = 47 by rw [show s.size - 1 = i by omega]; exact h47) hlast
  have eN : (nameB s).data.toList = s.data.toList.drop (i + 1) := by
    unfold nameB
    rw [extract_list, e, show ((i : Int) + 1).toNat = i + 1 by omega, List.take_of_length_le (by rw [size_list]; exact Nat.le_refl _)]
  have hns : (nameB s).size = s.size - (i + 1) := by rw [← size_list, eN]; simp
  have hnot : ¬ (47 : UInt8) ∈ (nameB s).data.toList := by
    rw [eN]
    intro hm
    obtain ⟨j, hj, ej⟩ := List.getElem_of_mem hm
    simp only [List.length_drop, size_list] at hj
    rw [List.getElem_drop] at ej
    exact hn (i + 1 + j) (by omega) (by omega) ((bat_toList s _ (by omega)).1 ej)
  by_cases h0 : i = 0
  · subst h0
    have eP : (parentB s).data.toList = [47] := by
      unfold parentB
      rw [extract_list, e, show (max ((0 : Nat) : Int) 1).toNat = 1 by omega]
      have := drop_at_slash hi h47
      rw [List.drop_zero] at this ⊢
      rw [this]; rfl
    have hps : (parentB s).size = 1 := by rw [← size_list, eP]; rfl
    refine ⟨?_, by omega, by omega, hnot⟩
    unfold preL
    rw [if_pos hps, eP, eN]
    have := drop_at_slash hi h47
    rw [List.drop_zero] at this
    rw [this]; rfl
  · have eP : (parentB s).data.toList = s.data.toList.take i := by
      unfold parentB
      rw [extract_list, e, show (max (i : Int) 1).toNat = i by omega, List.drop_zero]
    have hps : (parentB s).size = i := by rw [← size_list, eP]; simp; omega
    have hi1 : i ≠ 1 := by
      intro e1
      subst e1
      exact vpath_noadj h 0 (by omega) g3 h47
    refine ⟨?_, by omega, by omega, hnot⟩
    unfold preL
    rw [if_neg (by omega), eP, eN]
    have := drop_at_slash hi h47
    rw [List.append_assoc, List.singleton_append, ← this, List.take_append_drop]

theorem bytes_append (x a b : List UInt8) : bytesBefore (x ++ a) (x ++ b) = bytesBefore a b := by
  induction x with
  | nil => rfl
  | cons c l ih => simp [bytesBefore, ih]

theorem ba_ext {a b : ByteArray} (h : a.data.toList = b.data.toList) : a = b := by
  cases a; cases b
  simp only at h
  rw [Array.toList_inj.1 h]

/-- Of two children of one path the paths are in order as the names are. -/
theorem child_before {a b : ByteArray} (ha : vpath a = true) (ha1 : a.size ≠ 1) (hb : vpath b = true) (hb1 : b.size ≠ 1) (h : parentB a = parentB b) : bytesBefore a.data.toList b.data.toList = bytesBefore (nameB a).data.toList (nameB b).data.toList := by
  rw [(path_split ha ha1).1, (path_split hb hb1).1, h, bytes_append]
theorem child_inj {a b : ByteArray} (ha : vpath a = true) (ha1 : a.size ≠ 1) (hb : vpath b = true) (hb1 : b.size ≠ 1) (h : parentB a = parentB b) (hn : nameB a = nameB b) : a = b := by
  apply ba_ext
  rw [(path_split ha ha1).1, (path_split hb hb1).1, h, hn]
end Go.Proofs.YtclekhjnnljjlaaGreatDoor
namespace Go.Proofs.YtclekhjnnljjlaaGreatDoor
open Go.RowKit

section lists
variable {α β : Type}

theorem mem_ext_sorted : ∀ {a b : List (Key × α)}, MSorted a → MSorted b → (∀ x, x ∈ a ↔ x ∈ b) → a = b
  | [], [], _, _, _ => rfl
  | [], y :: b, _, _, h => by have := (h y).2 (by simp); simp at this
  | x :: a, [], _, _, h => by have := (h x).1 (by simp); simp at this
  | x :: a, y :: b, ha, hb, h => by
    obtain ⟨a1, a2⟩ := List.pairwise_cons.1 ha
    obtain ⟨b1, b2⟩ := List.pairwise_cons.1 hb
    have asym : ∀ {u v : Key}, bytesBefore u v = true → bytesBefore v u = true → False := fun {u v} h1 h2 => by
      have := WideShapes.bytes_trans _ _ _ h1 h2
      rw [WideAt.bytes_irrefl] at this; cases this
    have hxy : x = y := by
      rcases List.mem_cons.1 ((h x).1 (by simp)) with e | e
      · exact e
      rcases List.mem_cons.1 ((h y).2 (by simp)) with e' | e'
      · exact e'.symm
      exact (asym (a1 y e') (b1 x e)).elim
    subst hxy
    have irr : ∀ {l : List (Key × α)}, (∀ z ∈ l, bytesBefore x.1 z.1 = true) → x ∉ l := fun hl hm => by
      have := hl x hm
      rw [WideAt.bytes_irrefl] at this; cases this
    rw [mem_ext_sorted a2 b2 (fun z => ?_)]
    constructor
    · intro hz
      rcases List.mem_cons.1 ((h z).1 (by simp [hz])) with e | e
      · subst e; exact absurd hz (irr a1)
      · exact e
    · intro hz
      rcases List.mem_cons.1 ((h z).2 (by simp [hz])) with e | e
      · subst e; exact absurd hz (irr b1)
      · exact e

/-- Two lists with the same keys, whose values stand to one another as R says. -/
inductive Rel2 (R : α → β → Prop) : List (Key × α) → List (Key × β) → Prop
  | nil : Rel2 R [] []
  | cons {x : Key × α} {y : Key × β} {l : List (Key × α)} {l' : List (Key × β)} : x.1 = y.1 → R x.2 y.2 → Rel2 R l l' → Rel2 R (x :: l) (y :: l')

theorem Rel2.imp {R R' : α → β → Prop} {a : List (Key × α)} {b : List (Key × β)} (h : Rel2 R a b) (hr : ∀ x ∈ a, ∀ y, R x.2 y → R' x.2 y) : Rel2 R' a b := by
  induction h with
  | nil => exact .nil
  | cons h0 h1 _ ih => exact .cons h0 (hr _ (by simp) _ h1) (ih fun x hx => hr x (by simp [hx]))
theorem Rel2.length {R : α → β → Prop} {a : List (Key × α)} {b : List (Key × β)} (h : Rel2 R a b) : a.length = b.length := by
  induction h with
  | nil => rfl
  | cons _ _ _ ih => simp [ih]
theorem Rel2.mdel {R : α → β → Prop} {a : List (Key × α)} {b : List (Key × β)} (h : Rel2 R a b) (k : Key) : Rel2 R (mdel a k) (mdel b k) := by
  induction h with
  | nil => exact .nil
  | @cons x y l l' h0 h1 _ ih =>
    unfold Go.Proofs.YtclekhjnnljjlaaGreatDoor.mdel at ih ⊢
    rw [List.filter_cons, List.filter_cons, ← h0]
    split
    · exact .cons h0 h1 ih
    · exact ih
theorem Rel2.mins {R : α → β → Prop} {a : List (Key × α)} {b : List (Key × β)} (h : Rel2 R a b) {x : Key × α} {y : Key × β} (hk : x.1 = y.1) (hxy : R x.2 y.2) : Rel2 R (mins x a) (mins y b) := by
  induction h with
  | nil => exact .cons hk hxy .nil
  | @cons u v l l' h0 h1 ht ih =>
    unfold Go.Proofs.YtclekhjnnljjlaaGreatDoor.mins
    rw [← hk, ← h0]
    split
    · exact .cons hk hxy (.cons h0 h1 ht)
    · exact .cons h0 h1 ih
theorem Rel2.mput {R : α → β → Prop} {a : List (Key × α)} {b : List (Key × β)} (h : Rel2 R a b) (k : Key) {x : α} {y : β} (hxy : R x y) : Rel2 R (mput a k x) (mput b k y) := (h.mdel k).mins rfl hxy
theorem Rel2.get {R : α → β → Prop} {a : List (Key × α)} {b : List (Key × β)} (h : Rel2 R a b) (k : Key) : (mget a k = none ∧ mget b k = none) ∨ ∃ x y, mget a k = some x ∧ mget b k = some y ∧ R x y := by
  induction h with
  | nil => exact .inl ⟨rfl, rfl⟩
  | @cons u v l l' h0 h1 _ ih =>
    unfold mget at ih ⊢
    rw [List.find?_cons, List.find?_cons, ← h0]
    cases u.1 == k
    · exact ih
    · exact .inr ⟨_, _, rfl, rfl, h1⟩
theorem Rel2.keys {R : α → β → Prop} {a : List (Key × α)} {b : List (Key × β)} (h : Rel2 R a b) : a.map (·.1) = b.map (·.1) := by
  induction h with
  | nil => rfl
  | cons h0 _ _ ih => simp [h0, ih]
end lists

/-- A node's path as a key. -/
def keyN (n : Nd) : Key := n.path.data.toList

/-- The nodes of a tree: each at its own path, each as a node may be. -/
structure MOk (M : List (Key × Nd)) : Prop where
  sorted : MSorted M
  key : ∀ x ∈ M, x.1 = keyN x.2
  right : ∀ x ∈ M, rightN x.2 = 0

theorem MOk.nil : MOk [] := ⟨List.Pairwise.nil, fun _ h => by simp at h, fun _ h => by simp at h⟩
theorem MOk.put {M : List (Key × Nd)} (h : MOk M) (n : Nd) (hn : rightN n = 0) : MOk (mput M (keyN n) n) :=
  ⟨mput_sorted h.sorted _ _, fun x hx => by
    rcases mem_mput.1 hx with rfl | ⟨hx, _⟩
    · rfl
    · exact h.key x hx, fun x hx => by
    rcases mem_mput.1 hx with rfl | ⟨hx, _⟩
    · exact hn
    · exact h.right x hx⟩
theorem MOk.del {M : List (Key × Nd)} (h : MOk M) (k : Key) : MOk (mdel M k) :=
  ⟨mdel_sorted h.sorted _, fun x hx => h.key x (mem_mdel.1 hx).1, fun x hx => h.right x (mem_mdel.1 hx).1⟩

theorem right_vpath {n : Nd} (h : rightN n = 0) : vpath n.path = true := by
  unfold rightN at h
  split at h
  · cases h
  · rename_i hv; simpa using hv
theorem right_fit {n : Nd} (h : rightN n = 0) : Fit n ∧ n.data.length ≤ 1048575 ∧ n.acl.length ≤ 16 := by
  have hv := vpath_facts (right_vpath h)
  unfold rightN at h
  split at h
  · cases h
  split at h
  · cases h
  rename_i h1
  simp only [not_or] at h1
  refine ⟨⟨by omega, by omega, by omega, fun x hx => ?_⟩, by omega, by omega⟩
  have h3 := h1.2.2
  have : bigAc x = false := by
    cases hb : bigAc x with
    | false => rfl
    | true => exact absurd (List.any_eq_true.2 ⟨x, hx, hb⟩) h3
  unfold bigAc at this
  simp at this
  omega

/-- Is it a child of p? -/
def childOf (p : ByteArray) (n : Nd) : Bool := n.path.size != 1 && (parentB n.path).data.toList == p.data.toList
theorem childOf_iff {p : ByteArray} {n : Nd} : childOf p n = true ↔ n.path.size ≠ 1 ∧ parentB n.path = p := by
  unfold childOf
  simp only [Bool.and_eq_true, bne_iff_ne, ne_eq, beq_iff_eq]
  exact ⟨fun h => ⟨h.1, ba_ext h.2⟩, fun h => ⟨h.1, by rw [h.2]⟩⟩
def nameK (n : Nd) : Key := (nameB n.path).data.toList
/-- The names of the children of a path, in order. -/
def kidsOf (M : List (Key × Nd)) (p : ByteArray) : List (Key × Value) := (M.filter fun x => childOf p x.2).map fun x => (nameK x.2, Value.agg #[])

theorem mem_kids {M : List (Key × Nd)} {p : ByteArray} {y : Key × Value} : y ∈ kidsOf M p ↔ ∃ x ∈ M, childOf p x.2 = true ∧ y = (nameK x.2, .agg #[]) := by
  unfold kidsOf
  simp only [List.mem_map, List.mem_filter]
  constructor
  · rintro ⟨x, ⟨h1, h2⟩, rfl⟩; exact ⟨x, h1, h2, rfl⟩
  · rintro ⟨x, h1, h2, rfl⟩; exact ⟨x, ⟨h1, h2⟩, rfl⟩

theorem kids_sorted {M : List (Key × Nd)} (h : MOk M) (p : ByteArray) : MSorted (kidsOf M p) := by
  unfold MSorted kidsOf
  rw [List.pairwise_map, List.pairwise_filter]
  refine List.Pairwise.imp_of_mem (fun {a b} ha hb hab h1 h2 => ?_) h.sorted
  rw [h.key a ha, h.key b hb] at hab
  obtain ⟨a1, a2⟩ := childOf_iff.1 h1
  obtain ⟨b1, b2⟩ := childOf_iff.1 h2
  have := child_before (right_vpath (h.right a ha)) a1 (right_vpath (h.right b hb)) b1 (a2.trans b2.symm)
  show bytesBefore (nameB a.2.path).data.toList (nameB b.2.path).data.toList = true
  rw [← this]
  exact hab

theorem kids_put {M : List (Key × Nd)} (h : MOk M) {n : Nd} (hn : rightN n = 0) (hne : mget M (keyN n) = none) (p : ByteArray) :
    kidsOf (mput M (keyN n) n) p = if childOf p n then mput (kidsOf M p) (nameK n) (.agg #[]) else kidsOf M p := by
  have hnew := mget_none hne
  have hM' := h.put n hn
  by_cases hc : childOf p n = true
  · rw [if_pos hc]
    refine mem_ext_sorted (kids_sorted hM' p) (mput_sorted (kids_sorted h p) _ _) fun y => ?_
    rw [mem_kids, mem_mput, mem_kids]
    constructor
    · rintro ⟨x, hx, h1, rfl⟩
      rcases mem_mput.1 hx with rfl | ⟨hx, hxn⟩
      · exact .inl rfl
      · refine .inr ⟨⟨x, hx, h1, rfl⟩, fun e => hxn ?_⟩
        obtain ⟨a1, a2⟩ := childOf_iff.1 h1
        obtain ⟨b1, b2⟩ := childOf_iff.1 hc
        rw [h.key x hx]
        unfold keyN
        rw [child_inj (right_vpath (h.right x hx)) a1 (right_vpath hn) b1 (a2.trans b2.symm) (ba_ext e)]
    · rintro (rfl | ⟨⟨x, hx, h1, rfl⟩, _⟩)
      · exact ⟨(keyN n, n), mem_mput.2 (.inl rfl), hc, rfl⟩
      · exact ⟨x, mem_mput.2 (.inr ⟨hx, hnew x hx⟩), h1, rfl⟩
  · rw [if_neg hc]
    refine mem_ext_sorted (kids_sorted hM' p) (kids_sorted h p) fun y => ?_
    rw [mem_kids, mem_kids]
    constructor
    · rintro ⟨x, hx, h1, rfl⟩
      rcases mem_mput.1 hx with rfl | ⟨hx, _⟩
      · exact absurd h1 hc
      · exact ⟨x, hx, h1, rfl⟩
    · rintro ⟨x, hx, h1, rfl⟩
      exact ⟨x, mem_mput.2 (.inr ⟨hx, hnew x hx⟩), h1, rfl⟩

theorem MOk.at {M : List (Key × Nd)} (h : MOk M) {k : Key} {n : Nd} (hg : mget M k = some n) : k = keyN n ∧ rightN n = 0 :=
  ⟨h.key _ (mget_some_mem hg), h.right _ (mget_some_mem hg)⟩

theorem kids_del {M : List (Key × Nd)} (h : MOk M) {n : Nd} (hg : mget M (keyN n) = some n) (p : ByteArray) :
    kidsOf (mdel M (keyN n)) p = if childOf p n then mdel (kidsOf M p) (nameK n) else kidsOf M p := by
  have hn := (h.at hg).2
  by_cases hc : childOf p n = true
  · rw [if_pos hc]
    refine mem_ext_sorted (kids_sorted (h.del _) p) (mdel_sorted (kids_sorted h p) _) fun y => ?_
    rw [mem_kids, mem_mdel, mem_kids]
    constructor
    · rintro ⟨x, hx, h1, rfl⟩
      obtain ⟨hx, hxn⟩ := mem_mdel.1 hx
      refine ⟨⟨x, hx, h1, rfl⟩, fun e => hxn ?_⟩
      obtain ⟨a1, a2⟩ := childOf_iff.1 h1
      obtain ⟨b1, b2⟩ := childOf_iff.1 hc
      rw [h.key x hx]
      unfold keyN
      rw [child_inj (right_vpath (h.right x hx)) a1 (right_vpath hn) b1 (a2.trans b2.symm) (ba_ext e)]
    · rintro ⟨⟨x, hx, h1, rfl⟩, hy⟩
      refine ⟨x, mem_mdel.2 ⟨hx, fun e => hy ?_⟩, h1, rfl⟩
      have h2 := mget_of_mem h.sorted (show (x.1, x.2) ∈ M from hx)
      rw [e, hg] at h2
      rw [← Option.some.inj h2]
  · rw [if_neg hc]
    refine mem_ext_sorted (kids_sorted (h.del _) p) (kids_sorted h p) fun y => ?_
    rw [mem_kids, mem_kids]
    constructor
    · rintro ⟨x, hx, h1, rfl⟩
      exact ⟨x, (mem_mdel.1 hx).1, h1, rfl⟩
    · rintro ⟨x, hx, h1, rfl⟩
      refine ⟨x, mem_mdel.2 ⟨hx, fun e => hc ?_⟩, h1, rfl⟩
      have h2 := mget_of_mem h.sorted (show (x.1, x.2) ∈ M from hx)
      rw [e, hg] at h2
      rw [Option.some.inj h2]
      exact h1
theorem kids_length (M : List (Key × Nd)) (p : ByteArray) : (kidsOf M p).length ≤ M.length := by
  unfold kidsOf; rw [List.length_map]; exact List.length_filter_le _ _
end Go.Proofs.YtclekhjnnljjlaaGreatDoor
namespace Go.Proofs.YtclekhjnnljjlaaGreatDoor
open Go.RowKit
set_option maxHeartbeats 400000
set_option maxRecDepth 100000

theorem bclone_any (a : Option Addr) (n c : Nat) (xs : List UInt8) (w : World) (hc : Cells w.heap.size w a (xs.map u8v)) (hn : n = xs.length) (hb : n * 1 ≤ 140737488355328) :
    Calls Tryz.prog 85 #[.slice a n c] w (CloneOut 5 1 a n (xs.map u8v) w) := by
  subst hn
  cases a with
  | none =>
    have hx := hc.none
    have he := fun w n c => Lib.run_eql_slice_nil (P := Tryz.prog) w 83 5 none n c 0 0 Tryz.underlying83
    have hx' : xs = [] := by cases xs with
      | nil => rfl
      | cons b l => simp [u8v] at hx
    subst hx'
    have fin : CloneOut 5 1 none 0 [] w (.returned (.slice none 0 0)) w := ⟨_, rfl, World.ownsRow_nil _ _ _ _, Below.refl _ _, by simp⟩
    have FIN := Lib.hid fin
    clear fin
    go_enter Tryz.func85, Tryz.ntmps85
    go_wp2
    go_ret
    exact FIN.out
  | some p =>
    have he := fun w n c => Lib.run_eql_slice_nil (P := Tryz.prog) w 83 5 (some p) n c 0 0 Tryz.underlying83
    obtain ⟨i0, hi, hz0, hz1, hz2⟩ := info_parts infoU8
    have hsrc : Src Tryz.prog 1 83 (.slice (some p) xs.length c) xs.length (xs.map u8v) (w.alloc (.cells #[] 5)) := (hc.below ((Below.refl _ w).alloc (Nat.le_refl _) _)).src Tryz.underlying83 _ _ (by simp) (one_u8 xs)
    have hown := ownsRow_empty w 5 1
    go_enter Tryz.func85, Tryz.ntmps85
    go_wp2_with (at_builtin; refine wpList_append_src _ rfl _ _ 83 83 rfl w.heap.size 5 i0 (.int .u8 0) 1 1 Tryz.underlying83 hi hz0 hz1 hz2 rfl (by decide) _ 0 _ rfl hown _ _ _ rfl hsrc ?c1 ?c2 ?c3 ?_)
    case c1 => simp only [maxLen]; omega
    case c2 => omega
    case c3 => simp
    intro v' w1 ho hg hnil _
    have hB : Below w.heap.size w w1 := ((Below.refl _ w).alloc (Nat.le_refl _) _).grown hg (by simp) (fun k hk => by simp only [Value.ownBlock, Option.some.injEq] at hk; omega)
    have fin : CloneOut 5 1 (some p) xs.length (xs.map u8v) w (.returned v') w1 := ⟨_, rfl, ho, hB, ⟨fun h => absurd h hnil, fun h => by cases h⟩⟩
    have FIN := Lib.hid fin
    clear fin hB ho hg hnil hsrc hown
    go_wp2
    go_ret
    exact FIN.out

theorem aclone_any (a : Option Addr) (n c : Nat) (xs : List Ac) (w : World) (hc : Cells w.heap.size w a (acCs xs)) (hn : n = xs.length) (hb : n * 40 ≤ 140737488355328) :
    Calls Tryz.prog 86 #[.slice a n c] w (CloneOut 146 3 a n (acCs xs) w) := by
  subst hn
  cases a with
  | none =>
    have hx := hc.none
    have he := fun w n c => Lib.run_eql_slice_nil (P := Tryz.prog) w 84 146 none n c 0 0 Tryz.underlying84
    have hx' : xs = [] := by cases xs with
      | nil => rfl
      | cons b l => simp [acCs, acC] at hx
    subst hx'
    have fin : CloneOut 146 3 none 0 [] w (.returned (.slice none 0 0)) w := ⟨_, rfl, World.ownsRow_nil _ _ _ _, Below.refl _ _, by simp⟩
    have FIN := Lib.hid fin
    clear fin
    go_enter Tryz.func86, Tryz.ntmps86
    go_wp2
    go_ret
    exact FIN.out
  | some p =>
    have he := fun w n c => Lib.run_eql_slice_nil (P := Tryz.prog) w 84 146 (some p) n c 0 0 Tryz.underlying84
    obtain ⟨i0, hi, hz0, hz1, hz2⟩ := info_parts infoAc
    have hsrc : Src Tryz.prog 3 84 (.slice (some p) xs.length c) xs.length (acCs xs) (w.alloc (.cells #[] 146)) := (hc.below ((Below.refl _ w).alloc (Nat.le_refl _) _)).src Tryz.underlying84 _ _ (by simp [acCs_length]) (one_ac xs)
    have hown := ownsRow_empty w 146 3
    go_enter Tryz.func86, Tryz.ntmps86
    go_wp2_with (at_builtin; refine wpList_append_src _ rfl _ _ 84 84 rfl w.heap.size 146 i0 (.agg #[.int .i32 0, .string ⟨#[]⟩, .string ⟨#[]⟩]) 3 40 Tryz.underlying84 hi hz0 hz1 hz2 rfl (by decide) _ 0 _ rfl hown _ _ _ rfl hsrc ?c1 ?c2 ?c3 ?_)
    case c1 => simp only [maxLen]; omega
    case c2 => omega
    case c3 => simp
    intro v' w1 ho hg hnil _
    have hB : Below w.heap.size w w1 := ((Below.refl _ w).alloc (Nat.le_refl _) _).grown hg (by simp) (fun k hk => by simp only [Value.ownBlock, Option.some.injEq] at hk; omega)
    have fin : CloneOut 146 3 (some p) xs.length (acCs xs) w (.returned v') w1 := ⟨_, rfl, ho, hB, ⟨fun h => absurd h hnil, fun h => by cases h⟩⟩
    have FIN := Lib.hid fin
    clear fin hB ho hg hnil hsrc hown
    go_wp2
    go_ret
    exact FIN.out

end Go.Proofs.YtclekhjnnljjlaaGreatDoor
namespace Go.Proofs.YtclekhjnnljjlaaGreatDoor
open Go.RowKit
set_option maxHeartbeats 2000000
set_option maxRecDepth 100000

theorem ownsRow_from {w : World} {base e size n : Nat} {v : Value} {xs : List Value} (h : w.ownsRow base e size v n xs) : ∃ a c, v = .slice a n c ∧ ∀ j u, xs[j]? = some u → ∃ b off, a = some ⟨b, off, none⟩ ∧ base ≤ b ∧ b < w.heap.size ∧ w.cell? ⟨b, off + j, none⟩ = some u := by
  obtain ⟨a, c, rfl, hc⟩ := ownsRow_cells h
  refine ⟨a, c, rfl, fun j u hj => ?_⟩
  obtain ⟨b, off, rfl, h1, h2⟩ := hc j u hj
  refine ⟨b, off, rfl, ?_, h1, h2⟩
  rcases h.2 with ⟨h, _⟩ | ⟨g, cap, cur, h, k1, _⟩
  · cases h
  · simp only [Value.slice.injEq, Option.some.injEq, Addr.mk.injEq] at h; omega

/-- A node's value, the two slices' cells in blocks of a set. -/
def CellsS (S : Nat → Prop) (w : World) (a : Option Addr) (xs : List Value) : Prop :=
  ∀ j u, xs[j]? = some u → ∃ b off, a = some ⟨b, off, none⟩ ∧ S b ∧ w.cell? ⟨b, off + j, none⟩ = some u
def NdS (S : Nat → Prop) (w : World) (v : Value) (n : Nd) : Prop :=
  ∃ da dc aa ac, v = .agg (ndC n (.slice da n.data.length dc) (.slice aa n.acl.length ac)) ∧ CellsS S w da (n.data.map u8v) ∧ CellsS S w aa (acCs n.acl)

theorem CellsS.imp {S S' : Nat → Prop} {w w' : World} {a : Option Addr} {xs : List Value} (h : CellsS S w a xs) (hS : ∀ b, S b → S' b) (hw : ∀ (b o : Nat) u, S b → w.cell? ⟨b, o, none⟩ = some u → w'.cell? ⟨b, o, none⟩ = some u) : CellsS S' w' a xs := fun j u hj => by
  obtain ⟨b, off, h1, h2, h3⟩ := h j u hj
  exact ⟨b, off, h1, hS b h2, hw b _ u h2 h3⟩
theorem CellsS.cells {S : Nat → Prop} {w : World} {a : Option Addr} {xs : List Value} (h : CellsS S w a xs) {B : Nat} (hS : ∀ b, S b → b < B) : Cells B w a xs := fun j u hj => by
  obtain ⟨b, off, h1, h2, h3⟩ := h j u hj
  exact ⟨b, off, h1, hS b h2, h3⟩
theorem NdS.imp {S S' : Nat → Prop} {w w' : World} {v : Value} {n : Nd} (h : NdS S w v n) (hS : ∀ b, S b → S' b) (hw : ∀ (b o : Nat) u, S b → w.cell? ⟨b, o, none⟩ = some u → w'.cell? ⟨b, o, none⟩ = some u) : NdS S' w' v n := by
  obtain ⟨da, dc, aa, ac, rfl, h1, h2⟩ := h
  exact ⟨da, dc, aa, ac, rfl, h1.imp hS hw, h2.imp hS hw⟩
theorem NdV.nds {B : Nat} {w : World} {v : Value} {n : Nd} (h : NdV B w v n) : NdS (· < B) w v n := h

/-- A copy of a node, wholly in new memory. -/
def CloneS (n : Nd) (w : World) (e : Ending) (w' : World) : Prop := ∃ v, e = .returned v ∧ NdS (fun b => w.heap.size ≤ b ∧ b < w'.heap.size) w' v n ∧ Below w.heap.size w w'

theorem sclone_nd (n : Nd) (da aa : Option Addr) (dc ac : Nat) (w : World) (hf : Fit n) (hD : Cells w.heap.size w da (n.data.map u8v)) (hA : Cells w.heap.size w aa (acCs n.acl)) :
    Calls Tryz.prog 52 #[.agg (ndC n (.slice da n.data.length dc) (.slice aa n.acl.length ac))] w (CloneS n w) := by
  have hfd := hf.data
  have hfa := hf.acl
  obtain ⟨W2, hW2⟩ : ∃ W2, W2 = (w.alloc (.cells (ndC n (.slice da n.data.length dc) (.slice aa n.acl.length ac)) 88)).alloc (.cells #[.string ⟨#[]⟩, .slice none 0 0, .slice none 0 0, .int .i64 0, .int .i64 0, .int .i64 0, .int .i64 0, .int .i64 0, .int .i64 0, .int .i64 0, .int .i64 0, .int .i32 0, .int .i32 0, .int .i32 0, .bool false, .int .i64 0, .int .i64 0] 88) := ⟨_, rfl⟩
  have hs2 : W2.heap.size = w.heap.size + 1 + 1 := by rw [hW2]; simp
  have hb2 : Below w.heap.size w W2 := by rw [hW2]; exact ((Below.refl _ _).alloc (Nat.le_refl _) _).alloc (by simp) _
  have hA2 : W2.heap[w.heap.size]? = some (.cells (ndC n (.slice da n.data.length dc) (.slice aa n.acl.length ac)) 88 (0, 0)) := by rw [hW2]; exact heap_alloc2_old w _ _
  have hR2 : W2.heap[w.heap.size + 1]? = some (.cells #[.string ⟨#[]⟩, .slice none 0 0, .slice none 0 0, .int .i64 0, .int .i64 0, .int .i64 0, .int .i64 0, .int .i64 0, .int .i64 0, .int .i64 0, .int .i64 0, .int .i32 0, .int .i32 0, .int .i32 0, .bool false, .int .i64 0, .int .i64 0] 88 (0, 0)) := by rw [hW2]; exact heap_alloc2_new w _ _
  have C1 := bclone_any da n.data.length dc n.data W2 ((hD.below hb2).mono (by omega)) rfl (by omega)
  rw [hW2] at C1
  have C1 := Lib.hid C1
  have HW2 := Lib.hid hW2
  unfold ndC at hA2 C1 HW2 ⊢
  clear hW2
  go_enter Tryz.func52, Tryz.ntmps52
  go_wp2_with fail
  refine C1.out.mono ?_
  rintro e w4 ⟨v1, rfl, ho1, hb4, _⟩
  rw [← HW2.out] at hb4 ho1
  obtain ⟨va, vc, rfl, hD4⟩ := ownsRow_from ho1
  have hA4 := (hb4.block w.heap.size (by omega)).trans hA2
  have hR4 := (hb4.block (w.heap.size + 1) (by omega)).trans hR2
  have hbw4 := hb2.trans (hb4.mono (by omega))
  have hz4 := hb4.size
  have hcell : w4.cell? ⟨w.heap.size, 1, none⟩ = some (.slice da n.data.length dc) := by rw [cell_of_row w4 w.heap.size 1 _ _ _ hA4]; rfl
  have hfr : w4.frozen? ⟨w.heap.size, 1, none⟩ = false := frozen_of_row w4 w.heap.size 1 _ _ hA4
  obtain ⟨W5, hW5⟩ : ∃ W5, W5 = w4.setCell ⟨w.heap.size, 1, none⟩ (.slice va n.data.length vc) := ⟨_, rfl⟩
  have hs5 : W5.heap.size = w4.heap.size := by rw [hW5]; simp [World.setCell]
  have hA5 : W5.heap[w.heap.size]? = some (.cells (ndC n (.slice va n.data.length vc) (.slice aa n.acl.length ac)) 88 (0, 0)) := by
    rw [hW5, heap_setCell_same w4 w.heap.size 1 _ _ _ hA4]; rfl
  have hR5 := (show W5.heap[w.heap.size + 1]? = w4.heap[w.heap.size + 1]? by rw [hW5]; exact Below.heap_setCell _ _ _ _ (by simp)).trans hR4
  have hb5 : Below w.heap.size w W5 := by rw [hW5]; exact hbw4.setCell (p := ⟨w.heap.size, 1, none⟩) (Nat.le_refl _) _
  have hD5 : ∀ j u, (n.data.map u8v)[j]? = some u → ∃ b off, va = some ⟨b, off, none⟩ ∧ W2.heap.size ≤ b ∧ b < W5.heap.size ∧ W5.cell? ⟨b, off + j, none⟩ = some u := fun j u hj => by
    obtain ⟨b, off, h1, h2, h3, h4⟩ := hD4 j u hj
    refine ⟨b, off, h1, h2, by omega, ?_⟩
    rw [hW5, World.cell?_of_block (w := w4) (Below.heap_setCell _ _ _ _ (by simp; omega))]
    exact h4
  have C2 := aclone_any aa n.acl.length ac n.acl W5 ((hA.below hb5).mono (by omega)) rfl (by omega)
  have HW5 := Lib.hid hW5
  have hcell2 : (w4.setCell ⟨w.heap.size, 1, none⟩ (.slice va n.data.length vc)).cell? ⟨w.heap.size, 2, none⟩ = some (.slice aa n.acl.length ac) := by rw [← hW5, cell_of_row W5 w.heap.size 2 _ _ _ hA5]; rfl
  rw [hW5] at C2
  have C2 := Lib.hid C2
  have HS5 := Lib.hid hs5
  have hnb4 : w.heap.size < w4.heap.size := by omega
  have hnb5 : w.heap.size + 1 < w4.heap.size := by omega
  clear hW5 hs5 hA4 hR4 hb4 hD4 hA2 hR2 HW2 hA hD C1 hbw4 ho1
  go_wp2_with fail
  refine C2.out.mono ?_
  rintro e w6 ⟨v2, rfl, ho2, hb6', _⟩
  rw [← HW5.out] at hb6' ho2
  have hs5 := HS5.out
  obtain ⟨vb, vd, rfl, hE6⟩ := ownsRow_from ho2
  have hA6 := (hb6'.block w.heap.size (by omega)).trans hA5
  have hR6 := (hb6'.block (w.heap.size + 1) (by omega)).trans hR5
  have hb6 := hb5.trans (hb6'.mono (by omega))
  have hz6 := hb6'.size
  have hD6 : ∀ j u, (n.data.map u8v)[j]? = some u → ∃ b off, va = some ⟨b, off, none⟩ ∧ W2.heap.size ≤ b ∧ b < W5.heap.size ∧ w6.cell? ⟨b, off + j, none⟩ = some u := fun j u hj => by
    obtain ⟨b, off, h1, h2, h3, h4⟩ := hD5 j u hj
    exact ⟨b, off, h1, h2, h3, (World.cell?_of_block (hb6'.block b h3)).trans h4⟩
  clear ho2 hb6' hA5 hR5 hb5 hD5 hcell hfr hcell2 C2
  have hcell : w6.cell? ⟨w.heap.size, 2, none⟩ = some (.slice aa n.acl.length ac) := by rw [cell_of_row w6 w.heap.size 2 _ _ _ hA6]; rfl
  have hfr : w6.frozen? ⟨w.heap.size, 2, none⟩ = false := frozen_of_row w6 w.heap.size 2 _ _ hA6
  have hA7 : (w6.setCell ⟨w.heap.size, 2, none⟩ (.slice vb n.acl.length vd)).heap[w.heap.size]? = some (.cells (ndC n (.slice va n.data.length vc) (.slice vb n.acl.length vd)) 88 (0, 0)) := by
    rw [heap_setCell_same w6 w.heap.size 2 _ _ _ hA6]; rfl
  have hR7 := (show (w6.setCell ⟨w.heap.size, 2, none⟩ (.slice vb n.acl.length vd)).heap[w.heap.size + 1]? = w6.heap[w.heap.size + 1]? from Below.heap_setCell _ _ _ _ (by simp)).trans hR6
  have HA7 := Lib.hid hA7
  have HR7 := Lib.hid hR7
  clear hA7 hR7 hA6 hR6
  go_wp2_with (first | (refine wpList_load_row rfl 88 (.tmp 1) rfl w.heap.size rfl 88 _ (0, 0) _ HA7.out Tryz.underlying88 rfl sizeNd ?_) | (refine wpList_store_row rfl 88 (.tmp 2) (.tmp 11) rfl (w.heap.size + 1) _ rfl rfl 88 _ HR7.out sizeNd rfl (cells_node n va vb _ _ vc vd) ?_))
  obtain ⟨W7, hW7⟩ : ∃ W7, W7 = w6.setCell ⟨w.heap.size, 2, none⟩ (.slice vb n.acl.length vd) := ⟨_, rfl⟩
  have hA7 := HA7.out
  have hR7 := HR7.out
  rw [← hW7] at hA7 hR7 ⊢
  have hs7 : W7.heap.size = w6.heap.size := by rw [hW7]; simp [World.setCell]
  have hb7 : Below w.heap.size w W7 := by rw [hW7]; exact hb6.setCell (p := ⟨w.heap.size, 2, none⟩) (Nat.le_refl _) _
  have ho7 : ∀ b, w.heap.size + 1 + 1 ≤ b → W7.heap[b]? = w6.heap[b]? := fun b hb => by rw [hW7]; exact Below.heap_setCell _ _ _ _ (by simp; omega)
  obtain ⟨cs, hcs⟩ : ∃ cs, cs = ndC n (.slice va n.data.length vc) (.slice vb n.acl.length vd) := ⟨_, rfl⟩
  rw [← hcs] at hA7 ⊢
  have hR8 := setRow_heap W7 (w.heap.size + 1) _ cs 88 (0, 0) hR7
  have hs8 : (W7.setRow (w.heap.size + 1) cs).heap.size = W7.heap.size := by simp [World.setRow]
  have hb8 : Below w.heap.size w (W7.setRow (w.heap.size + 1) cs) :=
    hb7.trans ⟨rfl, rfl, rfl, by rw [hs8]; exact Nat.le_refl _, fun k hk => setRow_other _ _ _ _ (by omega)⟩
  have ho8 : ∀ b, w.heap.size + 1 + 1 ≤ b → (W7.setRow (w.heap.size + 1) cs).heap[b]? = w6.heap[b]? := fun b hb => (setRow_other _ _ _ _ (by omega)).trans (ho7 b hb)
  have hz := HS5.out
  have cD : CellsS (fun b => w.heap.size ≤ b ∧ b < (W7.setRow (w.heap.size + 1) cs).heap.size) (W7.setRow (w.heap.size + 1) cs) va (n.data.map u8v) := fun j u hj => by
    obtain ⟨b, off, h1, h2, h3, h4⟩ := hD6 j u hj
    exact ⟨b, off, h1, ⟨by omega, by omega⟩, (World.cell?_of_block (ho8 b (by omega))).trans h4⟩
  have cA : CellsS (fun b => w.heap.size ≤ b ∧ b < (W7.setRow (w.heap.size + 1) cs).heap.size) (W7.setRow (w.heap.size + 1) cs) vb (acCs n.acl) := fun j u hj => by
    obtain ⟨b, off, h1, h2, h3, h4⟩ := hE6 j u hj
    exact ⟨b, off, h1, ⟨by omega, by omega⟩, (World.cell?_of_block (ho8 b (by omega))).trans h4⟩
  have hsz17 : (Tryz.prog.info? 88).map (·.size) = some cs.size := by rw [hcs]; exact sizeNd
  refine bodyPost_ret (v := .agg cs) ?_ rfl ⟨_, rfl, ⟨va, vc, vb, vd, by rw [hcs], cD, cA⟩, hb8⟩
  exact results_cell_row (p := 2) (ty := 88) rfl _ _ (w.heap.size + 1) 88 cs (0, 0) _ rfl hR8 Tryz.underlying88 rfl hsz17
def newN (path : ByteArray) (data : List UInt8) (acl : List Ac) (owner zxid time : Int) : Nd := ⟨path, data, acl, owner, zxid, zxid, zxid, 0, 0, time, time, 0, 0, 0, false, 0, 0⟩

theorem snew_nd (path : ByteArray) (data : List UInt8) (acl : List Ac) (owner zxid time : Int) (da aa : Option Addr) (dc ac : Nat) (w : World) (hf : Fit (newN path data acl owner zxid time)) (hD : Cells w.heap.size w da (data.map u8v)) (hA : Cells w.heap.size w aa (acCs acl)) :
    Calls Tryz.prog 63 #[.string path, .slice da data.length dc, .slice aa acl.length ac, .int .i64 owner, .int .i64 zxid, .int .i64 time] w (CloneS (newN path data acl owner zxid time) w) := by
  obtain ⟨W1, hW1⟩ : ∃ W1, W1 = w.alloc (.cells #[.string ⟨#[]⟩, .slice none 0 0, .slice none 0 0, .int .i64 0, .int .i64 0, .int .i64 0, .int .i64 0, .int .i64 0, .int .i64 0, .int .i64 0, .int .i64 0, .int .i32 0, .int .i32 0, .int .i32 0, .bool false, .int .i64 0, .int .i64 0] 88) := ⟨_, rfl⟩
  have hb1 : Below w.heap.size w W1 := by rw [hW1]; exact (Below.refl _ _).alloc (Nat.le_refl _) _
  have hs1 : W1.heap.size = w.heap.size + 1 := by rw [hW1]; simp
  have hR1 : W1.heap[w.heap.size]? = some (.cells #[.string ⟨#[]⟩, .slice none 0 0, .slice none 0 0, .int .i64 0, .int .i64 0, .int .i64 0, .int .i64 0, .int .i64 0, .int .i64 0, .int .i64 0, .int .i64 0, .int .i32 0, .int .i32 0, .int .i32 0, .bool false, .int .i64 0, .int .i64 0] 88 (0, 0)) := by rw [hW1]; exact heap_alloc_new w _
  have C := sclone_nd (newN path data acl owner zxid time) da aa dc ac W1 hf ((hD.below hb1).mono (by omega)) ((hA.below hb1).mono (by omega))
  rw [hW1] at C
  have HW1 := Lib.hid hW1
  have HR1 := Lib.hid hR1
  unfold ndC newN at C
  have C := Lib.hid C
  clear hW1 hR1
  go_enter Tryz.func63, Tryz.ntmps63
  go_wp2_with fail
  refine C.out.mono ?_
  rintro e w2 ⟨v, rfl, hN, hb2⟩
  rw [← HW1.out] at hb2 hN
  obtain ⟨va, vc, vb, vd, rfl, h1, h2⟩ := hN
  have hR2 := (hb2.block w.heap.size (by omega)).trans HR1.out
  have HR2 := Lib.hid hR2
  have hb := hb1.trans (hb2.mono (by omega))
  clear C HW1 HR1 hR2
  go_wp2_with (refine wpList_store_row rfl 88 (.tmp 12) (.tmp 23) rfl w.heap.size _ rfl rfl 88 _ HR2.out sizeNd rfl (cells_node _ va vb _ _ vc vd) ?_)
  obtain ⟨cs, hcs⟩ : ∃ cs, cs = ndC (newN path data acl owner zxid time) (.slice va data.length vc) (.slice vb acl.length vd) := ⟨_, rfl⟩
  have hR3 := setRow_heap w2 w.heap.size _ cs 88 (0, 0) HR2.out
  have hs3 : (w2.setRow w.heap.size cs).heap.size = w2.heap.size := by simp [World.setRow]
  have hz := hb2.size
  have hb3 : Below w.heap.size w (w2.setRow w.heap.size cs) :=
    hb.trans ⟨rfl, rfl, rfl, by rw [hs3]; exact Nat.le_refl _, fun k hk => setRow_other _ _ _ _ (by omega)⟩
  have hsz17 : (Tryz.prog.info? 88).map (·.size) = some cs.size := by rw [hcs]; exact sizeNd
  have hk : ∀ (b o : Nat) u, (W1.heap.size ≤ b ∧ b < w2.heap.size) → w2.cell? ⟨b, o, none⟩ = some u → (w2.setRow w.heap.size cs).cell? ⟨b, o, none⟩ = some u := fun b o u hb hu =>
    (World.cell?_of_block (setRow_other _ _ _ _ (show b ≠ w.heap.size by have := hb.1; omega))).trans hu
  have c1 := h1.imp (S' := fun b => w.heap.size ≤ b ∧ b < (w2.setRow w.heap.size cs).heap.size) (fun b hb => ⟨by omega, by omega⟩) hk
  have c2 := h2.imp (S' := fun b => w.heap.size ≤ b ∧ b < (w2.setRow w.heap.size cs).heap.size) (fun b hb => ⟨by omega, by omega⟩) hk
  refine bodyPost_ret (v := .agg cs) ?_ rfl ⟨_, rfl, ⟨va, vc, vb, vd, by rw [hcs]; rfl, ?_, ?_⟩, ?_⟩
  · refine results_cell_row (p := 12) (ty := 88) rfl _ _ w.heap.size 88 cs (0, 0) _ rfl ?_ Tryz.underlying88 rfl hsz17
    rw [hcs] at hR3 ⊢; exact hR3
  · rw [hcs] at c1; exact c1
  · rw [hcs] at c2; exact c2
  · rw [hcs] at hb3; exact hb3
end Go.Proofs.YtclekhjnnljjlaaGreatDoor
