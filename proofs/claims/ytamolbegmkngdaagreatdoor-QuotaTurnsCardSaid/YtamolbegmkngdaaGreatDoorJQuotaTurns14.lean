/- The walks of a nil tree's methods. The walks of arborref07's Get and After. The walk of arborref07's Below. The walk of the law's Texts at two lists of the same texts. The walks of package quota's over and Over: the quotas over a path. The walks of package quota's passes, weigh, exceeds, Exceeds. -/
import Derived.Test.YtamolbegmkngdaaGreatDoorJQuotaTurns13
import Derived.Test.YtamolbegmkngdaaGreatDoorJQuotaTurns7
import Derived.Test.YtamolbegmkngdaaGreatDoorJQuotaTurns12
import Derived.Test.YtamolbegmkngdaaGreatDoorJQuotaTurns11
import Derived.Test.YtamolbegmkngdaaGreatDoorJQuotaTurns6
import Derived.Test.YtamolbegmkngdaaGreatDoorJQuotaTurns10
import Derived.BigQuiet
namespace Go.Proofs.YtamolbegmkngdaaGreatDoor
open Go.RowKit Go.Sort
set_option maxHeartbeats 2000000
set_option maxRecDepth 100000

theorem zeroNd_one : zeroNd.all (·.oneCell') = true := by simp [zeroNd, Value.oneCell']
theorem setRow_self (w : World) (z : Array Value) (t : TypeId) : (w.alloc (.cells z t)).setRow w.heap.size z = w.alloc (.cells z t) := setRow_alloc w z z t

theorem tget_nil (s : ByteArray) (w : World) : Calls Tryz.prog 38 #[.pointer none, .string s] w fun e w' => e = .returned (.tuple #[.agg zeroNd, .bool false]) ∧ Ext w w' := by
  have HS := Lib.hid (setRow_self w zeroNd 47)
  have HNew := Lib.hid (heap_alloc_new w (.cells zeroNd 47))
  have HNew2 := Lib.hid (heap_alloc_new w (.cells zeroNd 47))
  unfold zeroNd at HS HNew
  go_enter Tryz.func38, Tryz.ntmps38
  go_wp2_with (refine wpList_store_row rfl 47 (.tmp 4) (.tmp 10) rfl w.heap.size _ rfl rfl 47 _ HNew.out sizeNd rfl zeroNd_one ?_; rw [HS.out])
  refine bodyPost_ret (v := .tuple #[.agg zeroNd, .bool false]) ?_ rfl ⟨rfl, Ext.alloc _ _⟩
  exact results_cell_row2 (p := 4) (q := 5) (ty := 47) rfl _ _ w.heap.size 47 _ (0, 0) _ _ rfl rfl HNew2.out Tryz.underlying47 rfl sizeNd

theorem tafter_nil (s : ByteArray) (w : World) : Calls Tryz.prog 59 #[.pointer none, .string s] w fun e w' => e = .returned (.tuple #[.agg zeroNd, .bool false]) ∧ Ext w w' := by
  have HS := Lib.hid (setRow_self w zeroNd 47)
  have HNew := Lib.hid (heap_alloc_new w (.cells zeroNd 47))
  have HNew2 := Lib.hid (heap_alloc_new w (.cells zeroNd 47))
  unfold zeroNd at HS HNew
  go_enter Tryz.func59, Tryz.ntmps59
  go_wp2_with (refine wpList_store_row rfl 47 (.tmp 4) (.tmp 11) rfl w.heap.size _ rfl rfl 47 _ HNew.out sizeNd rfl zeroNd_one ?_; rw [HS.out])
  refine bodyPost_ret (v := .tuple #[.agg zeroNd, .bool false]) ?_ rfl ⟨rfl, Ext.alloc _ _⟩
  exact results_cell_row2 (p := 4) (q := 5) (ty := 47) rfl _ _ w.heap.size 47 _ (0, 0) _ _ rfl rfl HNew2.out Tryz.underlying47 rfl sizeNd

theorem zeroStat_one' : zeroStat.all (·.oneCell') = true := by simp [zeroStat, Value.oneCell']
theorem tstat_nil (s : ByteArray) (w : World) : Calls Tryz.prog 57 #[.pointer none, .string s] w fun e w' => e = .returned (.tuple #[.agg zeroStat, .int .i64 70]) ∧ Ext w w' := by
  have C1 := Lib.hid (tget_nil s (w.alloc (.cells zeroStat 93)))
  have HNs := Lib.hid (heap_alloc_new w (.cells zeroStat 93))
  have HEs := Lib.hid (Ext.alloc w (.cells zeroStat 93))
  obtain ⟨W0, hW0⟩ : ∃ W0, W0 = w.alloc (.cells zeroStat 93) := ⟨_, rfl⟩
  rw [← hW0] at C1 HNs HEs
  have HW0 := Lib.hid hW0
  unfold zeroStat at HW0
  have hz0 : W0.heap.size = w.heap.size + 1 := by rw [hW0]; simp
  clear hW0
  go_enter Tryz.func57, Tryz.ntmps57
  go_wp2_with fail
  rw [← HW0.out]
  refine C1.out.mono ?_
  rintro e w1 ⟨rfl, hE1⟩
  have hE1 : Ext W0 w1 := hE1
  have hz1 := hE1.size
  have HS := Lib.hid (setRow_self w1 zeroNd 47)
  have HNew := Lib.hid (heap_alloc_new w1 (.cells zeroNd 47))
  obtain ⟨W2, hW2⟩ : ∃ W2, W2 = w1.alloc (.cells zeroNd 47) := ⟨_, rfl⟩
  have hE2 : Ext w1 W2 := by rw [hW2]; exact Ext.alloc _ _
  have hs2 := ((hE1.trans hE2).block w.heap.size (by omega)).trans HNs.out
  rw [← hW2] at HS HNew
  have hS' := HS.out
  have HST := Lib.hid hs2
  have HST2 := Lib.hid hs2
  have HE2 := Lib.hid (HEs.out.trans (hE1.trans hE2))
  have HW2 := Lib.hid hW2
  unfold zeroNd at HS HW2 HNew
  unfold zeroStat at HST
  rw [HW2.out] at HNew
  have hR4 := setRow_heap W2 w.heap.size _ zeroStat 93 (0, 0) HST2.out
  have HR4 := Lib.hid hR4
  have HFIN := Lib.hid (show Ext w (W2.setRow w.heap.size zeroStat) from HE2.out.trans' ⟨rfl, rfl, rfl, by simp, fun k hk => setRow_other _ _ _ _ (by omega)⟩)
  clear C1 hE1 hE2 hs2 hW2 hS' hR4
  unfold zeroNd
  go_wp2_with (first | (refine wpList_store_row rfl 47 (.tmp 6) (.tmp 12) rfl w1.heap.size _ rfl rfl 47 _ HNew.out sizeNd rfl zeroNd_one ?_; rw [← HW2.out, HS.out]) | (refine wpList_store_row rfl 93 (.tmp 4) (.tmp 16) rfl w.heap.size _ rfl rfl 93 _ HST.out sizeStat rfl zeroStat_one' ?_))
  refine bodyPost_ret (v := .tuple #[.agg zeroStat, .int .i64 70]) ?_ rfl ⟨rfl, HFIN.out⟩
  exact results_cell_row2 (p := 4) (q := 5) (ty := 93) rfl _ _ w.heap.size 93 _ (0, 0) _ _ rfl rfl HR4.out Tryz.underlying93 rfl sizeStat

/-- What is behind the look into a nil tree. -/
theorem tchildren_nil (s : ByteArray) (w : World) : Calls Tryz.prog 58 #[.pointer none, .string s] w fun e w' => e = .returned (.tuple #[.slice none 0 0, .int .i64 70]) ∧ Ext w w' := by
  have C1 := Lib.hid (tget_nil s w)
  go_enter Tryz.func58, Tryz.ntmps58
  go_wp2_with fail
  refine C1.out.mono ?_
  rintro e w1 ⟨rfl, hE1⟩
  have HS := Lib.hid (setRow_self w1 zeroNd 47)
  have HNew := Lib.hid (heap_alloc_new w1 (.cells zeroNd 47))
  have HFIN := Lib.hid (hE1.trans (Ext.alloc w1 (.cells zeroNd 47)))
  unfold zeroNd at HS HNew HFIN ⊢
  clear C1 hE1
  go_wp2_with (refine wpList_store_row rfl 47 (.tmp 6) (.tmp 12) rfl w1.heap.size _ rfl rfl 47 _ HNew.out sizeNd rfl zeroNd_one ?_; rw [HS.out])
  go_ret2
  exact ⟨rfl, HFIN.out⟩

theorem tunder_nil (s : ByteArray) (w : World) : Calls Tryz.prog 120 #[.pointer none, .string s] w fun e w' => e = .returned (.slice none 0 0) ∧ Ext w w' := by
  have C1 := Lib.hid (tget_nil s w)
  go_enter Tryz.func120, Tryz.ntmps120
  go_wp2_with fail
  refine C1.out.mono ?_
  rintro e w1 ⟨rfl, hE1⟩
  have HS := Lib.hid (setRow_self w1 zeroNd 47)
  have HNew := Lib.hid (heap_alloc_new w1 (.cells zeroNd 47))
  have HFIN := Lib.hid (hE1.trans (Ext.alloc w1 (.cells zeroNd 47)))
  unfold zeroNd at HS HNew HFIN ⊢
  clear C1 hE1
  go_wp2_with (refine wpList_store_row rfl 47 (.tmp 5) (.tmp 16) rfl w1.heap.size _ rfl rfl 47 _ HNew.out sizeNd rfl zeroNd_one ?_; rw [HS.out])
  go_ret
  exact ⟨rfl, HFIN.out⟩

theorem tweigh_nil (s : ByteArray) (w : World) : Calls Tryz.prog 60 #[.pointer none, .string s] w fun e w' => e = .returned (.tuple #[.int .i64 0, .int .i64 0, .int .i64 70]) ∧ Ext w w' := by
  have C1 := Lib.hid (tunder_nil s w)
  go_enter Tryz.func60, Tryz.ntmps60
  go_wp2_with fail
  refine C1.out.mono ?_
  rintro e w1 ⟨rfl, hE1⟩
  have HE := Lib.hid hE1
  clear C1 hE1
  go_wp2
  go_ret3
  exact ⟨rfl, HE.out⟩

theorem below1_nil (s : ByteArray) (x y : Nat) (w : World) (hx : w.cell? ⟨x, 0, none⟩ = some (.pointer none)) (hy : w.cell? ⟨y, 0, none⟩ = some (.string s)) : Calls Tryz.prog 123 #[.pointer (some ⟨x, 0, none⟩), .pointer (some ⟨y, 0, none⟩)] w fun e w' => e = .returned (.slice none 0 0) ∧ Ext w w' := by
  have C1 := Lib.hid (tunder_nil s w)
  go_enter Tryz.func123, Tryz.ntmps123
  go_wp2_with fail
  refine C1.out.mono ?_
  rintro e w1 ⟨rfl, hE1⟩
  have HE := Lib.hid hE1
  clear C1 hE1 hx hy
  go_wp2
  go_ret
  exact ⟨rfl, HE.out⟩

def BelNil (s : ByteArray) (w : World) (e : Ending) (w' : World) : Prop :=
  ∃ x y bw btb, e = .returned (.func (.func 159) #[] #[.pointer (some ⟨bw, 0, none⟩), .pointer (some ⟨btb, 0, none⟩)]) ∧
    w'.cell? ⟨bw, 0, none⟩ = some (.func (.func 123) #[] #[.pointer (some ⟨x, 0, none⟩), .pointer (some ⟨y, 0, none⟩)]) ∧ w'.cell? ⟨x, 0, none⟩ = some (.pointer none) ∧ w'.cell? ⟨y, 0, none⟩ = some (.string s) ∧ Ext w w'

theorem toldN_any (x y : Nat) (w : World) : Calls Tryz.prog 121 #[.pointer none, .func (.func 123) #[] #[.pointer (some ⟨x, 0, none⟩), .pointer (some ⟨y, 0, none⟩)]] w fun e w' =>
    ∃ bw btb, e = .returned (.func (.func 159) #[] #[.pointer (some ⟨bw, 0, none⟩), .pointer (some ⟨btb, 0, none⟩)]) ∧ w'.cell? ⟨bw, 0, none⟩ = some (.func (.func 123) #[] #[.pointer (some ⟨x, 0, none⟩), .pointer (some ⟨y, 0, none⟩)]) ∧ Ext w w' := by
  have h2 : ∀ t u, ((w.alloc (.cells #[Value.pointer none] t)).alloc (.cells #[Value.func (.func 123) #[] #[.pointer (some ⟨x, 0, none⟩), .pointer (some ⟨y, 0, none⟩)]] u)).cell? ⟨w.heap.size + 1, 0, none⟩ = some (.func (.func 123) #[] #[.pointer (some ⟨x, 0, none⟩), .pointer (some ⟨y, 0, none⟩)]) := fun t u =>
    cell_of_row _ _ _ _ _ _ (by have := heap_alloc_new (w.alloc (.cells #[Value.pointer none] t)) (.cells #[Value.func (.func 123) #[] #[.pointer (some ⟨x, 0, none⟩), .pointer (some ⟨y, 0, none⟩)]] u); rwa [World.size_alloc] at this)
  have H2 := Lib.hid h2
  clear h2
  go_enter Tryz.func121, Tryz.ntmps121
  go_wp2
  go_ret
  exact ⟨_, _, rfl, H2.out _ _, (Ext.alloc w _).trans (Ext.alloc _ _)⟩

theorem tbelow_nil (s : ByteArray) (w : World) : Calls Tryz.prog 62 #[.pointer none, .string s] w (BelNil s w) := by
  have h1 : ∀ t u, ((w.alloc (.cells #[Value.pointer none] t)).alloc (.cells #[Value.string s] u)).cell? ⟨w.heap.size, 0, none⟩ = some (.pointer none) := fun t u =>
    cell_of_row _ _ _ _ _ _ ((heap_alloc_old _ _ (by simp)).trans (heap_alloc_new w _))
  have h2 : ∀ t u, ((w.alloc (.cells #[Value.pointer none] t)).alloc (.cells #[Value.string s] u)).cell? ⟨w.heap.size + 1, 0, none⟩ = some (.string s) := fun t u =>
    cell_of_row _ _ _ _ _ _ (by have := heap_alloc_new (w.alloc (.cells #[Value.pointer none] t)) (.cells #[Value.string s] u); rwa [World.size_alloc] at this)
  have H1 := Lib.hid h1
  have H2 := Lib.hid h2
  clear h1 h2
  have C1 := fun W => toldN_any w.heap.size (w.heap.size + 1) W
  go_enter Tryz.func62, Tryz.ntmps62
  go_wp2_with fail
  refine (C1 _).mono ?_
  rintro e w1 ⟨bw, btb, rfl, k1, hE⟩
  have hfin : BelNil s w (.returned (.func (.func 159) #[] #[.pointer (some ⟨bw, 0, none⟩), .pointer (some ⟨btb, 0, none⟩)])) w1 :=
    ⟨w.heap.size, w.heap.size + 1, _, _, rfl, k1, (hE.cell (p := ⟨w.heap.size, 0, none⟩) (by simp; omega)).trans (H1.out _ _), (hE.cell (p := ⟨w.heap.size + 1, 0, none⟩) (by simp)).trans (H2.out _ _), ((Ext.alloc w _).trans (Ext.alloc _ _)).trans hE⟩
  have HFIN := Lib.hid hfin
  clear hfin k1 hE C1
  go_wp2
  go_ret
  exact HFIN.out

theorem tadd_nil (cs : Array Value) (w : World) (h : cs.size = 17) : Calls Tryz.prog 40 #[.pointer none, .agg cs] w fun e w' => e = .returned (.int .i64 2) ∧ Ext w w' := by
  go_enter Tryz.func40, Tryz.ntmps40
  go_wp2
  go_ret
  exact ⟨rfl, Ext.alloc _ _⟩
theorem tput_nil (cs : Array Value) (w : World) (h : cs.size = 17) : Calls Tryz.prog 41 #[.pointer none, .agg cs] w fun e w' => e = .returned (.int .i64 2) ∧ Ext w w' := by
  go_enter Tryz.func41, Tryz.ntmps41
  go_wp2
  go_ret
  exact ⟨rfl, Ext.alloc _ _⟩
theorem trem_nil (s : ByteArray) (w : World) : Calls Tryz.prog 42 #[.pointer none, .string s] w fun e w' => e = .returned (.int .i64 2) ∧ w = w' := by
  go_enter Tryz.func42, Tryz.ntmps42
  go_wp2
  go_ret
  exact ⟨rfl, rfl⟩
theorem tclone_nil (w : World) : Calls Tryz.prog 45 #[.pointer none] w fun e w' => e = .returned (.pointer none) ∧ w = w' := by
  go_enter Tryz.func45, Tryz.ntmps45
  go_wp2
  go_ret
  exact ⟨rfl, rfl⟩
theorem tcount_nil (w : World) : Calls Tryz.prog 26 #[.pointer none] w fun e w' => e = .returned (.int .i64 0) ∧ w = w' := by
  go_enter Tryz.func26, Tryz.ntmps26
  go_wp2
  go_ret
  exact ⟨rfl, rfl⟩
theorem some_nil (f : Value) (w : World) : Calls Tryz.prog 108 #[.pointer none, f] w fun e w' => e = .returned (.slice none 0 0) ∧ w = w' := by
  have C1 := Lib.hid (sorted_nil w)
  go_enter Tryz.func108, Tryz.ntmps108
  go_wp2_with fail
  refine C1.out.mono ?_
  rintro e w1 ⟨rfl, rfl⟩
  clear C1
  go_wp2
  go_loopw [5, 11] (fun lv i wr => lv = .slice none 0 0 ∧ i = .int .i64 0 ∧ wr = w) (fun _ _ _ => 0)
  case atStart => exact ⟨rfl, rfl, rfl⟩
  case round =>
    obtain ⟨rfl, rfl, rfl⟩ := hrel
    go_wp2
    go_ret
    exact ⟨rfl, rfl⟩
theorem towned_nil (z : Int) (w : World) : Calls Tryz.prog 49 #[.pointer none, .int .i64 z] w fun e w' => e = .returned (.slice none 0 0) ∧ Ext w w' := by
  have C1 := Lib.hid (fun f w => some_nil f w)
  go_enter Tryz.func49, Tryz.ntmps49
  go_wp2_with fail
  refine (C1.out _ _).mono ?_
  rintro e w1 ⟨rfl, rfl⟩
  go_wp2
  go_ret
  exact ⟨rfl, Ext.alloc _ _⟩
theorem tidle_nil (w : World) : Calls Tryz.prog 51 #[.pointer none] w fun e w' => e = .returned (.slice none 0 0) ∧ Ext w w' := by
  have C1 := Lib.hid (fun f w => some_nil f w)
  go_enter Tryz.func51, Tryz.ntmps51
  go_wp2_with fail
  refine (C1.out _ _).mono ?_
  rintro e w1 ⟨rfl, rfl⟩
  go_wp2
  go_ret
  exact ⟨rfl, Ext.alloc _ _⟩
theorem taged_nil (z : Int) (w : World) : Calls Tryz.prog 53 #[.pointer none, .int .i64 z] w fun e w' => e = .returned (.slice none 0 0) ∧ Ext w w' := by
  have C1 := Lib.hid (fun f w => some_nil f w)
  go_enter Tryz.func53, Tryz.ntmps53
  go_wp2_with fail
  refine (C1.out _ _).mono ?_
  rintro e w1 ⟨rfl, rfl⟩
  go_wp2
  go_ret
  exact ⟨rfl, (Ext.alloc _ _).trans (Ext.alloc _ _)⟩
theorem same_nil (w : World) : Calls Tryz.prog 55 #[.pointer none, .pointer none] w fun e w' => e = .returned (.bool true) ∧ w = w' := by
  go_enter Tryz.func55, Tryz.ntmps55
  go_wp2
  go_ret
  exact ⟨rfl, rfl⟩
theorem same_nil_x (b : Nat) (w : World) : Calls Tryz.prog 55 #[.pointer none, .pointer (some ⟨b, 0, none⟩)] w fun e w' => e = .returned (.bool false) ∧ w = w' := by
  have hpe : (binOp .eql 23 (.pointer none) (.pointer (some ⟨b, 0, none⟩))).run Tryz.prog w = .ok (.bool false) w := by kernel_rfl
  go_enter Tryz.func55, Tryz.ntmps55
  go_wp2
  go_ret
  exact ⟨rfl, rfl⟩
end Go.Proofs.YtamolbegmkngdaaGreatDoor
namespace Go.Proofs.YtamolbegmkngdaaGreatDoor
open Go.RowKit Go.Sort
set_option maxHeartbeats 4000000
set_option maxRecDepth 100000

/-- What is found stands where it was found. -/
theorem rfind_node {M : List (Key × Nd)} (hM : MOk M) (s : ByteArray) {y : Nd} (hg : mget M s.data.toList = some y) : (rfind (nds M) s).1 < (nds M).length ∧ (nds M)[(rfind (nds M) s).1]? = some y := by
  have h2 := rfind_there hM.sorted hM.key s
  rw [hg] at h2
  obtain ⟨n, hn, hp⟩ := rfind_lt (nds M) s h2
  have hl := (List.getElem?_eq_some_iff.1 hn).1
  refine ⟨hl, ?_⟩
  rw [hn]
  have hm : n ∈ nds M := List.mem_of_getElem? hn
  obtain ⟨x, hx, rfl⟩ := List.mem_map.1 hm
  have hk := hM.key x hx
  have : mget M x.1 = some x.2 := mget_of_mem hM.sorted hx
  rw [hk] at this
  unfold keyN at this
  rw [hp, hg] at this
  exact this.symm

theorem setRow_same (w : World) (g : Nat) (cs : Array Value) (t : TypeId) (h : w.heap[g]? = some (.cells cs t (0, 0))) : w.setRow g cs = w := by
  refine world_ext ?_ rfl rfl rfl rfl
  apply Array.ext_getElem?
  intro i
  by_cases hi : i = g
  · subst hi
    rw [setRow_heap _ _ _ _ _ _ h, h]
  · rw [setRow_other _ _ _ _ hi]

theorem zeroStore (w : World) (t : TypeId) (cs : Array Value) : (w.alloc (.cells cs t)).heap[w.heap.size]? = some (.cells cs t (0, 0)) := heap_alloc_new w _

/-- A node stored into the result's box. -/
theorem getOut_store (M : List (Key × Nd)) (s : ByteArray) (b : Bool) (m : Nd) (w w3 : World) (cs0 : Array Value) (B0 : Nat) (hB0 : w.heap.size < B0) (v : Value) (hE : Ext w w3) (hr : w3.heap[w.heap.size]? = some (.cells cs0 47 (0, 0))) (hN : NdS (fun k => B0 ≤ k ∧ k < w3.heap.size) w3 v m) :
    ∃ da dc aa ac, v = .agg (ndC m (.slice da m.data.length dc) (.slice aa m.acl.length ac)) ∧ (w3.setRow w.heap.size (ndC m (.slice da m.data.length dc) (.slice aa m.acl.length ac))).heap[w.heap.size]? = some (.cells (ndC m (.slice da m.data.length dc) (.slice aa m.acl.length ac)) 47 (0, 0)) ∧
      NdS (fun b => w.heap.size ≤ b ∧ b < (w3.setRow w.heap.size (ndC m (.slice da m.data.length dc) (.slice aa m.acl.length ac))).heap.size) (w3.setRow w.heap.size (ndC m (.slice da m.data.length dc) (.slice aa m.acl.length ac))) v m ∧
      Ext w (w3.setRow w.heap.size (ndC m (.slice da m.data.length dc) (.slice aa m.acl.length ac))) := by
  obtain ⟨da, dc, aa, ac, rfl, h1, h2⟩ := hN
  refine ⟨da, dc, aa, ac, rfl, ?_⟩
  generalize hcs : ndC m (.slice da m.data.length dc) (.slice aa m.acl.length ac) = cs
  have hs4 : (w3.setRow w.heap.size cs).heap.size = w3.heap.size := by simp [World.setRow]
  have hb4 : Ext w (w3.setRow w.heap.size cs) := hE.trans' ⟨rfl, rfl, rfl, by rw [hs4]; exact Nat.le_refl _, fun k hk => setRow_other _ _ _ _ (by omega)⟩
  have hk : ∀ (b o : Nat) u, (B0 ≤ b ∧ b < w3.heap.size) → w3.cell? ⟨b, o, none⟩ = some u → (w3.setRow w.heap.size cs).cell? ⟨b, o, none⟩ = some u := fun b o u hb hu =>
    (World.cell?_of_block (setRow_other _ _ _ _ (show b ≠ w.heap.size by have := hb.1; omega))).trans hu
  exact ⟨setRow_heap w3 w.heap.size _ cs 47 (0, 0) hr, ⟨da, dc, aa, ac, by rw [hcs], h1.imp (fun b hb => ⟨by omega, by omega⟩) hk, h2.imp (fun b hb => ⟨by omega, by omega⟩) hk⟩, hb4⟩

theorem rget_any (w : World) (b : Nat) (M : List (Key × Nd)) (hR : RT w b (nds M)) (hM : MOk M) (s : ByteArray) (hs : s.size ≤ 9223372036854775800) : Calls Tryz.prog 88 #[.pointer (some ⟨b, 0, none⟩), .string s] w (GetOut M s w) := by
  obtain ⟨W1, hW1⟩ : ∃ W1, W1 = w.alloc (.cells zeroNd 47) := ⟨_, rfl⟩
  have hE1 : Ext w W1 := by rw [hW1]; exact Ext.alloc _ _
  have hz1 : W1.heap.size = w.heap.size + 1 := by rw [hW1]; simp
  have hr1 : W1.heap[w.heap.size]? = some (.cells zeroNd 47 (0, 0)) := by rw [hW1]; exact heap_alloc_new w _
  have hR1 := hR.ext hE1
  have CF := rfind_any _ W1 b (nds M) hR1 (nds_fit hM) s hs
  rw [rfind_isSome hM s] at CF
  cases hg : mget M s.data.toList with
  | none =>
    rw [hg] at CF
    have HS := fun W : World => Lib.hid (fun (h : W.heap[w.heap.size]? = some (.cells zeroNd 47 (0, 0))) => setRow_same W w.heap.size zeroNd 47 h)
    have HW1 := Lib.hid hW1
    have HR1 := Lib.hid hr1
    have HE1 := Lib.hid hE1
    have CF := Lib.hid CF
    have HG := Lib.hid hg
    unfold zeroNd at HW1
    clear hW1 hr1 hE1 hR1 hR hg
    go_enter Tryz.func88, Tryz.ntmps88
    go_wp2_with fail
    rw [← HW1.out]
    refine CF.out.mono ?_
    rintro e W2 ⟨rfl, hE2⟩
    have hE2 : Ext W1 W2 := hE2
    have hr2 := (hE2.block w.heap.size (by omega)).trans HR1.out
    have HR2 := Lib.hid hr2
    have hS2 := (HS W2).out hr2
    have HS2 := Lib.hid hS2
    have HE2 := Lib.hid (HE1.out.trans hE2)
    unfold zeroNd at HS2
    clear hE2 hr2 hS2 HS CF HW1
    go_wp2_with (refine wpList_store_row rfl 47 (.tmp 4) (.tmp 19) rfl w.heap.size _ rfl rfl 47 _ HR2.out sizeNd rfl zeroNd_one ?_; rw [HS2.out])
    have hfin : GetOut M s w (.returned (.tuple #[.agg zeroNd, .bool false])) W2 := ⟨_, by rw [HG.out]; rfl, by rw [HG.out]; exact zeroN_nds _ _, HE2.out⟩
    refine bodyPost_ret (v := .tuple #[.agg zeroNd, .bool false]) ?_ rfl hfin
    exact results_cell_row2 (p := 4) (q := 5) (ty := 47) rfl _ _ w.heap.size 47 _ (0, 0) _ _ rfl rfl HR2.out Tryz.underlying47 rfl sizeNd
  | some y =>
    rw [hg] at CF
    obtain ⟨hlt, hy⟩ := rfind_node hM s hg
    have hfy := nds_fit hM y (List.mem_of_getElem? hy)
    obtain ⟨a, cap, vs, hb, hl, hcm, hS, hrows, _⟩ := hR1
    obtain ⟨bl, off, da, dc, aa, ac, ea, hSb, hc, hD, hA, _⟩ := hrows.row hy
    subst ea
    have hlt2 : (rfind (nds M) s).1 < M.length := by rwa [nds_length] at hlt
    generalize (rfind (nds M) s).1 = k at *
    have hcb : W1.cell? ⟨b, 0, none⟩ = some (.slice (some ⟨bl, off, none⟩) (nds M).length cap) := cell_of_row _ _ _ _ _ _ hb
    have hbl := (Array.getElem?_eq_some_iff.1 hb).1
    have hl64 : (nds M).length ≤ 9223372036854775807 := by unfold maxLen at hcm; omega
    have HW1 := Lib.hid hW1
    have HR1 := Lib.hid hr1
    have HE1 := Lib.hid hE1
    have HCB := Lib.hid hcb
    have HC := Lib.hid hc
    have HS := Lib.hid hS
    have HD := Lib.hid (hD.cells fun b hb => (hS b hb).1)
    have HA := Lib.hid (hA.cells fun b hb => (hS b hb).1)
    have CF := Lib.hid CF
    have HG := Lib.hid hg
    unfold zeroNd at HW1
    clear hW1 hr1 hE1 hR hg hcb hc hS hD hA hb hrows hy hlt2
    go_enter Tryz.func88, Tryz.ntmps88
    go_wp2_with fail
    rw [← HW1.out]
    refine CF.out.mono ?_
    rintro e W2 ⟨rfl, hE2⟩
    have hE2 : Ext W1 W2 := hE2
    have hz2 := hE2.size
    have hr2 := (hE2.block w.heap.size (by omega)).trans HR1.out
    have hcb2 : W2.cell? ⟨b, 0, none⟩ = some (.slice (some ⟨bl, off, none⟩) (nds M).length cap) := (hE2.cell (p := ⟨b, 0, none⟩) hbl).trans HCB.out
    have hcw : ∀ j u, (ndC y (.slice da y.data.length dc) (.slice aa y.acl.length ac))[j]? = some u → W2.cell? ((⟨bl, off + k * 17, none⟩ : Addr).add j) = some u := fun j u hj => by
      rw [addr_add, hE2.cell (p := ⟨bl, off + k * 17 + j, none⟩) (HS.out bl hSb).1]
      exact HC.out j u hj
    have CC := Lib.hid (rclone_new y da aa dc ac W2 hfy (HD.out.ext hE2) (HA.out.ext hE2))
    have HR2 := Lib.hid hr2
    have HE2 := Lib.hid (HE1.out.trans hE2)
    have HC2 := Lib.hid hcw
    unfold ndC at HC2
    clear hE2 hr2 CF HW1 hcw HC HD HA HS HCB
    go_wp2_with (refine wpList_load_at rfl 47 (.tmp 25) rfl _ rfl _ _ HC2.out Tryz.underlying47 rfl sizeNd ?_)
    refine CC.out.mono ?_
    rintro e W3 ⟨v, rfl, hN, hE3⟩
    have hE3 : Ext W2 W3 := hE3
    have hr3 := (hE3.block w.heap.size (by omega)).trans HR2.out
    obtain ⟨va, vc, vb, vd, rfl, hr4, hN4, hE4⟩ := getOut_store M s true y w W3 _ W2.heap.size (by omega) v (HE2.out.trans hE3) hr3 hN
    have hfin : GetOut M s w (.returned (.tuple #[.agg (ndC y (.slice va y.data.length vc) (.slice vb y.acl.length vd)), .bool true])) _ := ⟨_, by rw [HG.out]; rfl, by rw [HG.out]; exact hN4, hE4⟩
    have HR3 := Lib.hid hr3
    have HR4 := Lib.hid hr4
    have HFIN := Lib.hid hfin
    clear hE3 hr3 hr4 hN hN4 hE4 hfin CC HC2 hcb2
    go_wp2_with (refine wpList_store_row rfl 47 (.tmp 4) (.tmp 27) rfl w.heap.size _ rfl rfl 47 _ HR3.out sizeNd rfl (cells_node y va vb _ _ vc vd) ?_)
    refine bodyPost_ret (v := .tuple #[.agg (ndC y (.slice va y.data.length vc) (.slice vb y.acl.length vd)), .bool true]) ?_ rfl HFIN.out
    exact results_cell_row2 (p := 4) (q := 5) (ty := 47) rfl _ _ w.heap.size 47 _ (0, 0) _ _ rfl rfl HR4.out Tryz.underlying47 rfl sizeNd
end Go.Proofs.YtamolbegmkngdaaGreatDoor
namespace Go.Proofs.YtamolbegmkngdaaGreatDoor
open Go.RowKit Go.Sort
set_option maxHeartbeats 4000000
set_option maxRecDepth 100000

/-- What of a list is under a path that is there. -/
def belB (M : List (Key × Nd)) (s : ByteArray) (x : Key × Nd) : Bool := (mget M s.data.toList).isSome && und x.2.path s
def belF (M : List (Key × Nd)) (s : ByteArray) (k : Nat) : List (Key × Nd) := (M.take k).filter (belB M s)
theorem belF_zero (M : List (Key × Nd)) (s : ByteArray) : belF M s 0 = [] := by simp [belF]
theorem belF_succ (M : List (Key × Nd)) (s : ByteArray) (k : Nat) (hk : k < M.length) : belF M s (k + 1) = belF M s k ++ if belB M s M[k] = true then [M[k]] else [] := by
  unfold belF
  rw [List.take_succ_eq_append_getElem hk, List.filter_append]
  congr 1
  by_cases h : belB M s M[k] = true
  · rw [if_pos h, List.filter_cons_of_pos h]; rfl
  · rw [if_neg h, List.filter_cons_of_neg h]; rfl
theorem belF_le (M : List (Key × Nd)) (s : ByteArray) (k : Nat) : (belF M s k).length ≤ k := by
  unfold belF
  refine Nat.le_trans (List.length_filter_le _ _) ?_
  rw [List.length_take]; omega
theorem belF_all {M : List (Key × Nd)} (hM : MOk M) (s : ByteArray) : nds (belF M s M.length) = nodesOf M (UndL M s) := by
  unfold belF
  rw [List.take_length]
  unfold UndL
  by_cases hg : (mget M s.data.toList).isSome = true
  · rw [if_pos hg]
    unfold undK nodesOf nds
    rw [List.map_map]
    have e : M.filter (belB M s) = M.filter fun x => und x.2.path s := List.filter_congr fun x _ => by unfold belB; rw [hg, Bool.true_and]
    rw [e]
    refine List.map_congr_left fun x hx => ?_
    simp only [Function.comp]
    rw [mget_of_mem hM.sorted (List.mem_filter.1 hx).1]; rfl
  · rw [if_neg hg]
    have e : M.filter (belB M s) = [] := List.filter_eq_nil_iff.2 fun x _ => by
      unfold belB
      cases h : (mget M s.data.toList).isSome with
      | true => exact absurd h hg
      | false => simp
    rw [e]; rfl

/-- A row of the call's own that shows these nodes. -/
def NodesOut (L : List Nd) (w : World) (e : Ending) (w' : World) : Prop := ∃ v, e = .returned v ∧ OwnN w.heap.size L v w' ∧ Ext w w'

theorem belB_there {M : List (Key × Nd)} {s : ByteArray} {y : Nd} (hg : mget M s.data.toList = some y) (x : Key × Nd) : belB M s x = und x.2.path s := by unfold belB; rw [hg]; rfl
theorem belB_none {M : List (Key × Nd)} {s : ByteArray} (hg : mget M s.data.toList = none) (x : Key × Nd) : belB M s x = false := by unfold belB; rw [hg]; rfl

theorem rbelow_any (w : World) (b : Nat) (M : List (Key × Nd)) (hR : RT w b (nds M)) (hM : MOk M) (s : ByteArray) (hs : s.size ≤ 9223372036854775800) (hl : M.length * 168 ≤ 140737488355328) :
    Calls Tryz.prog 93 #[.pointer (some ⟨b, 0, none⟩), .string s] w (NodesOut (nodesOf M (UndL M s)) w) := by
  have hR0 := hR
  obtain ⟨a, cap, vs, hb, hlc, hcm, hS, hrows, _⟩ := hR
  have hcb : w.cell? ⟨b, 0, none⟩ = some (.slice a (nds M).length cap) := cell_of_row _ _ _ _ _ _ hb
  have hbl := (Array.getElem?_eq_some_iff.1 hb).1
  rw [nds_length] at hcb
  have hl64 : M.length ≤ 9223372036854775807 := by omega
  have HR := Lib.hid hR0
  have HROWS := Lib.hid hrows
  have HS := Lib.hid hS
  have HM := Lib.hid hM
  have HALL := Lib.hid (belF_all hM s)
  clear hb hrows hS hM hlc hcm hR0
  go_enter Tryz.func93, Tryz.ntmps93
  go_wp2
  go_loopw [5, 6] (fun ov i wr => ∃ k : Nat, k ≤ M.length ∧ i = .int .i64 k ∧ Hid (OwnN w.heap.size (nds (belF M s k)) ov wr) ∧ Ext w wr) (fun _ i _ => M.length - (intOf i).toNat)
  case atStart => exact ⟨0, Nat.zero_le _, rfl, by unfold Hid; rw [belF_zero]; exact OwnN.nil _ _, Ext.refl _⟩
  case round =>
    obtain ⟨k, hk, rfl, HO, hE⟩ := hrel
    have hcr : wr.cell? ⟨b, 0, none⟩ = some (.slice a M.length cap) := (hE.cell (p := ⟨b, 0, none⟩) hbl).trans hcb
    by_cases hlt : k < M.length
    · have hMk : (nds M)[k]? = some M[k].2 := by unfold nds; rw [List.getElem?_map, List.getElem?_eq_getElem hlt]; rfl
      obtain ⟨bl, off, da, dc, aa, ac, ea, hSb, hc, hD, hA, _⟩ := HROWS.out.row hMk
      subst ea
      have hfit := (right_fit (HM.out.right M[k] (List.getElem_mem hlt))).1
      have hvp := right_vpath (HM.out.right M[k] (List.getElem_mem hlt))
      have hsucc := belF_succ M s k hlt
      have hle := belF_le M s (k + 1)
      have hle0 := belF_le M s k
      have hbT := fun (y : Nd) (hg : mget M s.data.toList = some y) => belB_there hg M[k]
      have hbN := fun (hg : mget M s.data.toList = none) => belB_none hg M[k]
      have hndc : ∀ l : List (Key × Nd), nds (l ++ [M[k]]) = nds l ++ [M[k].2] := fun l => by unfold nds; simp
      generalize hxx : M[k] = x at *
      obtain ⟨xk, n⟩ := x
      simp only at *
      have c0 : wr.cell? ⟨bl, off + k * 17, none⟩ = some (.string n.path) := (hE.cell (p := ⟨bl, off + k * 17, none⟩) (HS.out bl hSb).1).trans (hc 0 _ rfl)
      have CG := Lib.hid (rget_any wr b M (HR.out.ext hE) HM.out s hs)
      have HC := Lib.hid hc
      have HD := Lib.hid ((hD.cells fun b hb => (HS.out b hb).1))
      have HA := Lib.hid ((hA.cells fun b hb => (HS.out b hb).1))
      have HFIT := Lib.hid hfit
      have hp64 := hfit.path
      have HB := Lib.hid (HS.out bl hSb)
      have HSUCC := Lib.hid hsucc
      have HNDC := Lib.hid hndc
      have HBT := Lib.hid hbT
      have HBN := Lib.hid hbN
      have HVP := Lib.hid hvp
      have HE := Lib.hid hE
      clear hc hD hA hfit hE hMk hsucc hbT hbN hndc hxx hvp
      go_wp2_with fail
      refine CG.out.mono ?_
      rintro e w2 ⟨v, rfl, hv, hE2⟩
      obtain ⟨ga, gc, ha, hc, rfl, _, _⟩ := hv
      generalize (mget M s.data.toList).getD zeroN = n0
      obtain ⟨W3, hW3⟩ : ∃ W3, W3 = w2.alloc (.cells (ndC n0 (.slice ga n0.data.length gc) (.slice ha n0.acl.length hc)) 47) := ⟨_, rfl⟩
      have HSET := Lib.hid ((setRow_alloc w2 zeroNd (ndC n0 (.slice ga n0.data.length gc) (.slice ha n0.acl.length hc)) 47).trans hW3.symm)
      have HNew := Lib.hid (heap_alloc_new w2 (.cells zeroNd 47))
      have hE2' : Ext wr w2 := hE2
      have hE3 : Ext wr W3 := hE2'.trans (by rw [hW3]; exact Ext.alloc _ _)
      have hcr3 : W3.cell? ⟨b, 0, none⟩ = some (.slice (some ⟨bl, off, none⟩) M.length cap) := (hE3.cell (p := ⟨b, 0, none⟩) (World.block_lt_of_cell? _ _ hcr)).trans hcr
      have c03 : W3.cell? ⟨bl, off + k * 17, none⟩ = some (.string n.path) := (hE3.cell (p := ⟨bl, off + k * 17, none⟩) (World.block_lt_of_cell? _ _ c0)).trans c0
      have HEW3 := Lib.hid (HE.out.trans hE3)
      have HO3 := Lib.hid (HO.out.ext hE3)
      unfold ndC at HSET ⊢
      unfold zeroNd at HSET HNew
      clear CG hE2 hE2' hE3 hW3 hcr c0
      cases hg : mget M s.data.toList with
      | none =>
        have hst : belF M s (k + 1) = belF M s k := by rw [HSUCC.out, HBN.out hg]; simp
        have HST := Lib.hid hst
        clear hst hg
        go_wp2_with (refine wpList_store_row rfl 47 (.tmp 7) (.tmp 26) rfl w2.heap.size _ rfl rfl 47 _ HNew.out sizeNd rfl (cells_node n0 ga ha _ _ gc hc) ?_; rw [HSET.out])
        go_roundw
        case rel => exact ⟨k + 1, by omega, by go_num, by unfold Hid; rw [HST.out]; exact HO3.out, HEW3.out⟩
        case measure => simp [intOf]; omega
      | some y =>
        have hvs : vpath s = true := by
          have := right_vpath (HM.out.at hg).2
          have hk := (HM.out.at hg).1
          unfold keyN at hk
          rwa [← ba_ext hk] at this
        have CU := rund_any n.path s W3 hp64 hs
        rw [hvs, HVP.out, Bool.true_and, Bool.true_and] at CU
        have CU := Lib.hid CU
        have hbt := HBT.out _ hg
        clear hvs
        cases hu : und n.path s with
        | false =>
          rw [hu] at CU hbt
          have hst : belF M s (k + 1) = belF M s k := by rw [HSUCC.out, hbt]; simp
          have HST := Lib.hid hst
          clear hst hg hbt hu
          go_wp2_with (refine wpList_store_row rfl 47 (.tmp 7) (.tmp 26) rfl w2.heap.size _ rfl rfl 47 _ HNew.out sizeNd rfl (cells_node n0 ga ha _ _ gc hc) ?_; rw [HSET.out])
          refine CU.out.mono ?_
          rintro e W4 ⟨rfl, hE4⟩
          have HE4 := Lib.hid (HEW3.out.trans hE4)
          have HO4 := Lib.hid (HO3.out.ext hE4)
          clear CU hE4 hcr3 c03
          go_wp2
          go_roundw
          case rel => exact ⟨k + 1, by omega, by go_num, by unfold Hid; rw [HST.out]; exact HO4.out, HE4.out⟩
          case measure => simp [intOf]; omega
        | true =>
          rw [hu] at CU hbt
          have hst : nds (belF M s (k + 1)) = nds (belF M s k) ++ [n] := by rw [HSUCC.out, hbt, if_pos rfl, HNDC.out]
          have hll : (nds (belF M s k)).length ≤ k := by rw [nds_length]; exact hle0
          have HST := Lib.hid hst
          clear hst hg hbt hu
          go_wp2_with (refine wpList_store_row rfl 47 (.tmp 7) (.tmp 26) rfl w2.heap.size _ rfl rfl 47 _ HNew.out sizeNd rfl (cells_node n0 ga ha _ _ gc hc) ?_; rw [HSET.out])
          refine CU.out.mono ?_
          rintro e W4 ⟨rfl, hE4⟩
          have hE4 : Ext W3 W4 := hE4
          have hE04 := HEW3.out.trans hE4
          have hcr4 : W4.cell? ⟨b, 0, none⟩ = some (.slice (some ⟨bl, off, none⟩) M.length cap) := (hE4.cell (p := ⟨b, 0, none⟩) (World.block_lt_of_cell? _ _ hcr3)).trans hcr3
          have hcw : ∀ j u, (ndC n (.slice da n.data.length dc) (.slice aa n.acl.length ac))[j]? = some u → W4.cell? ((⟨bl, off + k * 17, none⟩ : Addr).add j) = some u := fun j u hj => by
            rw [addr_add, hE04.cell (p := ⟨bl, off + k * 17 + j, none⟩) HB.out.1]
            exact HC.out j u hj
          have CC := Lib.hid (rclone_new n da aa dc ac W4 HFIT.out (HD.out.ext hE04) (HA.out.ext hE04))
          have HC4 := Lib.hid hcw
          have HE4 := Lib.hid hE04
          have HO4 := Lib.hid (HO3.out.ext hE4)
          unfold ndC at HC4
          clear CU hE4 hE04 hcr3 c03 hcw HC HD HA HO3 HO
          go_wp2_with (refine wpList_load_at rfl 47 (.tmp 47) rfl _ rfl _ _ HC4.out Tryz.underlying47 rfl sizeNd ?_)
          refine CC.out.mono ?_
          rintro e W5 ⟨v, rfl, hN, hE5⟩
          have hE5 : Ext W4 W5 := hE5
          obtain ⟨qa, qc, ra, rc, rfl, hQ1, hQ2⟩ := hN
          obtain ⟨ws, hown4, heach4⟩ := HO4.out
          have hzw := HE4.out.size
          have hz5 := hE5.size
          have hlt4 : ∀ g, u5.ownBlock = some g → w.heap.size ≤ g ∧ g < W4.heap.size := fun g hg => hown4.lt g hg
          have hown5 := hown4.kept (grown_of_ext hE5 none) (Classical.em _)
          have heach5 : EachN (NewN w.heap.size u5 W5) W5 ws (nds (belF M s k)) := heach4.imp (fun b hb => ⟨hb.1, Nat.lt_of_lt_of_le hb.2.1 hE5.size, hb.2.2⟩) fun b o u _ hu => cell_ext hE5 b o u hu
          have hnew5 : NdS (NewN w.heap.size u5 W5) W5 (.agg (ndC n (.slice qa n.data.length qc) (.slice ra n.acl.length rc))) n := NdS.imp ⟨qa, qc, ra, rc, rfl, hQ1, hQ2⟩ (fun k hk => ⟨by omega, hk.2, fun e => by have := (hlt4 k e).2; omega⟩) fun _ _ _ _ h => h
          have hs17 : Cells (W5.alloc (.cells (ndC n (.slice qa n.data.length qc) (.slice ra n.acl.length rc)) 47)).heap.size (W5.alloc (.cells (ndC n (.slice qa n.data.length qc) (.slice ra n.acl.length rc)) 47)) (some ⟨W5.heap.size, 0, none⟩) (ndC n (.slice qa n.data.length qc) (.slice ra n.acl.length rc)).toList := fun j u hj => by
            refine ⟨_, 0, rfl, by simp, ?_⟩
            rw [Nat.zero_add, cell_of_row _ _ _ _ _ _ (heap_alloc_new W5 _)]
            simpa using hj
          have hsrc : Src Tryz.prog 17 22 (.slice (some ⟨W5.heap.size, 0, none⟩) 1 1) 1 (ndC n (.slice qa n.data.length qc) (.slice ra n.acl.length rc)).toList (W5.alloc (.cells (ndC n (.slice qa n.data.length qc) (.slice ra n.acl.length rc)) 47)) :=
            hs17.src Tryz.underlying22 1 1 (by simp [ndC]) (fun u hu => by
              have := cells_node n qa ra n.data.length n.acl.length qc rc
              rw [← Array.all_toList] at this
              exact List.all_eq_true.1 this u hu)
          obtain ⟨i0, hi, hz0, hz1', hz2⟩ := info_parts infoNd
          have hownA := hown5.alloc (.cells (ndC n (.slice qa n.data.length qc) (.slice ra n.acl.length rc)) 47)
          have HE5 := Lib.hid (HE4.out.trans hE5)
          have HEA := Lib.hid heach5
          have HNW := Lib.hid hnew5
          have HO5 := Lib.hid hown5
          unfold ndC at hownA hsrc
          clear CC hE5 hQ1 hQ2 hown4 heach4 hlt4 hown5 heach5 hnew5 hs17 HC4 hcr4 HO4
          unfold ndC
          go_wp2_with (at_builtin; refine wpList_append_src _ rfl (.tmp 41) (.tmp 50) 22 22 rfl w.heap.size 47 i0 (.agg zeroNd) 17 168 Tryz.underlying22 hi hz0 hz1' hz2 rfl (by decide) _ (nds (belF M s k)).length _ rfl hownA _ 1 _ rfl hsrc ?c1 ?c2 ?c3 ?_)
          case c1 => unfold maxLen; omega
          case c2 => omega
          case c3 => first | omega | (simp; omega)
          intro v' w6 hown6 hg6 _ ho6
          rw [show [Value.string n.path, .slice qa n.data.length qc, .slice ra n.acl.length rc, .int .i64 n.owner, .int .i64 n.czxid, .int .i64 n.mzxid, .int .i64 n.pzxid, .int .i64 n.azxid, .int .i64 n.qzxid, .int .i64 n.ctime, .int .i64 n.mtime, .int .i32 n.version, .int .i32 n.creates, .int .i32 n.aversion, .bool n.has, .int .i64 n.count, .int .i64 n.bytes] = (ndC n (.slice qa n.data.length qc) (.slice ra n.acl.length rc)).toList from rfl] at hown6
          have hstep := OwnN.step HEA.out HNW.out hown6 hg6 ho6
          have hkeep := OwnN.keep HE5.out (Nat.le_refl _) HO5.out hg6
          rw [← HST.out] at hstep
          have HSTEP := Lib.hid hstep
          have HKEEP := Lib.hid hkeep
          clear hown6 hg6 ho6 hstep hkeep hownA hsrc
          go_wp2
          go_roundw
          case rel => exact ⟨k + 1, by omega, by go_num, HSTEP.out, HKEEP.out⟩
          case measure => simp [intOf]; omega
    · obtain rfl : k = M.length := by omega
      have hfin : NodesOut (nodesOf M (UndL M s)) w (.returned u5) wr := ⟨_, rfl, by rw [← HALL.out]; exact HO.out, hE⟩
      have HFIN := Lib.hid hfin
      clear hfin hE hcb HROWS HO
      go_wp2
      go_ret
      exact HFIN.out
end Go.Proofs.YtamolbegmkngdaaGreatDoor
namespace Go.Proofs.YtamolbegmkngdaaGreatDoor
open Go.RowKit Go.Sort
set_option maxHeartbeats 4000000
set_option maxRecDepth 100000

/-- A slice that shows these texts. -/
def StrsAt (B : Nat) (w : World) (a : Option Addr) (L : List ByteArray) : Prop := ∀ i s, L[i]? = some s → ∃ b off, a = some ⟨b, off, none⟩ ∧ b < B ∧ w.cell? ⟨b, off + i, none⟩ = some (.string s)
theorem StrsAt.ext {w w' : World} {a : Option Addr} {L : List ByteArray} (h : StrsAt w.heap.size w a L) (hE : Ext w w') : StrsAt w'.heap.size w' a L := fun i s hi => by
  obtain ⟨b, off, e, hb, hc⟩ := h i s hi
  exact ⟨b, off, e, Nat.lt_of_lt_of_le hb hE.size, (hE.cell (p := ⟨b, off + i, none⟩) hb).trans hc⟩
theorem StrsAt.of_own {w : World} {base : Nat} {v : Value} {ks : List Key} (h : w.ownsRow base 9 1 v ks.length (ks.map encStr)) : ∃ a c, v = .slice a ks.length c ∧ ks.length ≤ c ∧ StrsAt w.heap.size w a (ks.map fun k => ⟨k.toArray⟩) := by
  have h2 := h.2
  obtain ⟨a, c, rfl, hc⟩ := ownsRow_cells h
  refine ⟨a, c, rfl, ?_, fun i s hi => ?_⟩
  · rcases h2 with ⟨e, h0⟩ | ⟨g, cap, cur, e, _, _, hl, _⟩
    · omega
    · cases e; exact hl
  · rw [List.getElem?_map, Option.map_eq_some_iff] at hi
    obtain ⟨k, hk, rfl⟩ := hi
    obtain ⟨b, off, rfl, hb, hcc⟩ := hc i (encStr k) (by rw [List.getElem?_map, hk]; rfl)
    exact ⟨b, off, rfl, hb, hcc⟩

theorem texts_self (L : List ByteArray) (a b : Option Addr) (c d : Nat) (w : World) (hA : StrsAt w.heap.size w a L) (hB : StrsAt w.heap.size w b L) (hl : L.length ≤ 9223372036854775807) :
    Calls Tryz.prog 48 #[.slice a L.length c, .slice b L.length d] w fun e w' => e = .returned (.bool true) ∧ Ext w w' := by
  have HA := Lib.hid hA
  have HB := Lib.hid hB
  clear hA hB
  go_enter Tryz.func48, Tryz.ntmps48
  go_wp2
  go_loopw [5] (fun i wr => ∃ k : Nat, k ≤ L.length ∧ i = .int .i64 k ∧ Ext w wr) (fun i _ => L.length - (intOf i).toNat)
  case atStart => exact ⟨0, Nat.zero_le _, rfl, Ext.refl _⟩
  case round =>
    obtain ⟨k, hk, rfl, hE⟩ := hrel
    by_cases hlt : k < L.length
    · obtain ⟨b1, o1, rfl, hb1, hc1⟩ := HA.out k L[k] (List.getElem?_eq_getElem hlt)
      obtain ⟨b2, o2, rfl, hb2, hc2⟩ := HB.out k L[k] (List.getElem?_eq_getElem hlt)
      generalize L[k] = n at *
      have c1 := (hE.cell (p := ⟨b1, o1 + k, none⟩) hb1).trans hc1
      have c2 := (hE.cell (p := ⟨b2, o2 + k, none⟩) hb2).trans hc2
      have HE := Lib.hid hE
      clear hE hc1 hc2
      go_wp2
      go_quiet (fail)
      go_wp2
      go_roundw
      case rel => exact ⟨k + 1, by omega, by go_num, HE.out.trans' (below_drewN (Below.refl _ _) _)⟩
      case measure => simp [intOf]; omega
    · obtain rfl : k = L.length := by omega
      have HE := Lib.hid hE
      clear hE
      go_wp2
      go_ret
      exact ⟨rfl, HE.out⟩
end Go.Proofs.YtamolbegmkngdaaGreatDoor
namespace Go.Proofs.YtamolbegmkngdaaGreatDoor
open Go.RowKit Go.Sort
set_option maxHeartbeats 4000000
set_option maxRecDepth 100000

theorem und_vpath {p q : ByteArray} (hp : vpath p = true) (h : und p q = true) : vpath q = true := undV_path p.size p (Nat.le_refl _) hp q h
theorem lineL_und {p : ByteArray} (hp : vpath p = true) (q : ByteArray) : q ∈ lineL p ↔ und p q = true := by
  rw [← upL_mem p.size p (Nat.le_refl _) hp q]
  unfold lineL
  simp only [List.mem_append, List.mem_reverse, List.mem_singleton]
  exact Or.comm
theorem lineL_vpath {p q : ByteArray} (hp : vpath p = true) (h : q ∈ lineL p) : vpath q = true := und_vpath hp ((lineL_und hp q).1 h)
theorem lineL_size {p q : ByteArray} (hp : vpath p = true) (h : q ∈ lineL p) : q.size ≤ 4096 := (vpath_facts (lineL_vpath hp h)).2.1
theorem lineL_length {p : ByteArray} (hp : vpath p = true) : (lineL p).length ≤ 4096 := by
  have h1 := upL_length p.size p (Nat.le_refl _) hp
  have h2 := vpath_facts hp
  unfold lineL
  simp only [List.length_append, List.length_reverse, List.length_cons, List.length_nil]
  omega
theorem quoN_le (M : List (Key × Nd)) (q : ByteArray) : (quoN M q).length ≤ 1 := by
  unfold quoN
  split
  · split
    · exact Nat.le_refl _
    · exact Nat.zero_le _
  · exact Nat.zero_le _
theorem quo_le (M : List (Key × Nd)) : ∀ L : List ByteArray, (L.flatMap (quoN M)).length ≤ L.length
  | [] => Nat.zero_le _
  | q :: L => by
    have h1 := quoN_le M q
    have h2 := quo_le M L
    rw [List.flatMap_cons, List.length_append, List.length_cons]
    omega
theorem quo_take (M : List (Key × Nd)) (L : List ByteArray) (k : Nat) (hk : k < L.length) : (L.take (k + 1)).flatMap (quoN M) = (L.take k).flatMap (quoN M) ++ quoN M L[k] := by
  rw [List.take_succ_eq_append_getElem hk, List.flatMap_append]
  simp
theorem overL_le (M : List (Key × Nd)) (s : ByteArray) : (overL M s).length ≤ 4096 := by
  unfold overL
  split
  · rename_i h
    exact Nat.le_trans (quo_le M _) (lineL_length h)
  · exact Nat.zero_le _
theorem overL_there {M : List (Key × Nd)} (hM : MOk M) {s : ByteArray} {n : Nd} (h : n ∈ overL M s) : mget M n.path.data.toList = some n ∧ n.has = true ∧ und s n.path = true := by
  unfold overL at h
  split at h
  · rename_i hv
    obtain ⟨q, hq, hn⟩ := List.mem_flatMap.1 h
    unfold quoN at hn
    split at hn
    · rename_i m hm
      split at hn
      · rename_i hh
        simp only [List.mem_singleton] at hn
        subst hn
        have hp : n.path = q := (ba_ext (hM.at hm).1).symm
        rw [hp]
        exact ⟨hm, hh, (lineL_und hv q).1 hq⟩
      · simp at hn
    · simp at hn
  · simp at h
theorem overL_fit {M : List (Key × Nd)} (hM : MOk M) {s : ByteArray} {n : Nd} (h : n ∈ overL M s) : Fit n := by
  have h1 := (overL_there hM h).1
  exact (right_fit (hM.at h1).2).1

/-- What Get answers, whatever the tree. -/
def GetsM (pv : Value) (M : List (Key × Nd)) (w : World) : Prop := ∀ W (t : ByteArray), Ext w W → t.size ≤ 9223372036854775800 → Calls Tryz.prog 38 #[pv, .string t] W (GetOut M t W)
theorem GetsM.of_tree {S : Nat → Prop} {w : World} {bt : Nat} {M : List (Key × Nd)} {N : Nat} (hT : TreeAt S w bt M N) : GetsM (.pointer (some ⟨bt, 0, none⟩)) M w := fun W t hE ht => tget_any S W bt M N (hT.ext hE) t (by unfold maxLen; omega)
theorem GetsM.nil (w : World) : GetsM (.pointer none) [] w := fun W t _ _ => (tget_nil t W).mono fun e w' h => ⟨_, h.1, zeroN_nds _ _, h.2⟩

theorem qover_any (pv : Value) (M : List (Key × Nd)) (w : World) (hM : MOk M) (hG : GetsM pv M w) (s : ByteArray) (hs : s.size ≤ 9223372036854775800) :
    Calls Tryz.prog 86 #[pv, .string s] w (NodesOut (overL M s) w) := by
  have C1 := Lib.hid (above_any s w hs)
  have HM := Lib.hid hM
  have HG := Lib.hid hG
  clear hM hG
  go_enter Tryz.func86, Tryz.ntmps86
  go_wp2_with fail
  refine C1.out.mono ?_
  rintro e w1 ⟨v, rfl, hv, hE1⟩
  cases hvp : vpath s with
  | false =>
    rw [hvp] at hv
    have hv : v = .slice none 0 0 := hv
    subst hv
    have hfin : NodesOut (overL M s) w (.returned (.slice none 0 0)) w1 := by
      unfold overL
      rw [hvp]
      exact ⟨_, rfl, OwnN.nil _ _, hE1⟩
    have HFIN := Lib.hid hfin
    clear hfin hE1 hvp C1
    go_wp2
    go_ret
    exact HFIN.out
  | true =>
    rw [hvp] at hv
    have hv : w1.ownsRow w.heap.size 9 1 v (upL s).length ((upL s).reverse.map .string) := hv
    have hlen := lineL_length hvp
    have hll : (lineL s).length = (upL s).length + 1 := by unfold lineL; simp
    have hov : overL M s = (lineL s).flatMap (quoN M) := by unfold overL; rw [hvp]; rfl
    have hsz := fun q (h : q ∈ lineL s) => lineL_size hvp h
    have HOV := Lib.hid hov
    have HSZ := Lib.hid hsz
    have HE1 := Lib.hid hE1
    have hz1 := hE1.size
    clear hE1 hvp C1 hov hsz
    go_wp2_with (at_builtin; refine wpList_append_s rfl (.tmp 19) (.tmp 21) rfl w.heap.size (upL s).length _ _ hv hz1 s (by omega) rfl rfl ?_)
    intro v2 W2 hO2 hE2
    have hE2 := hE2 w HE1.out (Nat.le_refl _)
    have hO2' : W2.ownsRow w.heap.size 9 1 v2 ((lineL s).map fun p => p.data.toList).length (((lineL s).map fun p => p.data.toList).map encStr) := by
      rw [List.length_map, hll, List.map_map]
      have e : (lineL s).map (encStr ∘ fun p => p.data.toList) = (upL s).reverse.map Value.string ++ [.string s] := by
        rw [List.map_congr_left (g := Value.string) fun p _ => encStr_data p]
        unfold lineL
        rw [List.map_append]; rfl
      rw [e, List.map_reverse]; exact hO2
    obtain ⟨sa, sc, rfl, _, hstr⟩ := StrsAt.of_own hO2'
    have hstr2 : StrsAt W2.heap.size W2 sa (lineL s) := by
      have e : ((lineL s).map fun p => p.data.toList).map (fun k => (⟨k.toArray⟩ : ByteArray)) = lineL s := by
        rw [List.map_map]
        exact (List.map_congr_left fun p _ => by simp).trans (List.map_id _)
      rw [e] at hstr; exact hstr
    rw [List.length_map]
    have HSTR := Lib.hid hstr2
    have HE2 := Lib.hid hE2
    generalize lineL s = L at *
    clear hO2 hO2' hstr hstr2 hE2 hv hll
    go_wp2
    go_loopw [7, 24] (fun lv i wr => ∃ k : Nat, k ≤ L.length ∧ i = .int .i64 k ∧ Hid (OwnN W2.heap.size ((L.take k).flatMap (quoN M)) lv wr) ∧ Ext W2 wr) (fun _ i _ => L.length - (intOf i).toNat)
    case atStart => exact ⟨0, Nat.zero_le _, rfl, OwnN.nil _ _, Ext.refl _⟩
    case round =>
      obtain ⟨k, hk, rfl, HO, hE⟩ := hrel
      by_cases hlt : k < L.length
      · obtain ⟨b, off, rfl, hb, hc⟩ := HSTR.out k L[k] (List.getElem?_eq_getElem hlt)
        have hq := HSZ.out L[k] (List.getElem_mem hlt)
        have htk := quo_take M L k hlt
        have hcr := (hE.cell (p := ⟨b, off + k, none⟩) hb).trans hc
        have hql := Nat.le_trans (quo_le M (L.take k)) (show (L.take k).length ≤ k by rw [List.length_take]; omega)
        generalize L[k] = q at *
        have CG := Lib.hid (HG.out wr q (HE2.out.trans hE) (by omega))
        have hquo : quoN M q = match mget M q.data.toList with | some n => if n.has = true then [n] else [] | none => [] := rfl
        have HTK := Lib.hid htk
        have HQ := Lib.hid hquo
        have HE := Lib.hid hE
        clear hc hE htk hquo
        go_wp2_with fail
        refine CG.out.mono ?_
        rintro e w3 ⟨v3, rfl, hv3, hE3⟩
        obtain ⟨d1, e1, a1, f1, X1, e0, hset1, hbx1, hEX1, hD1, hA1⟩ := box_node hv3 fun b hb => hb.2
        subst e0
        have hE3 : Ext wr w3 := hE3
        have hE13 := hE3.trans hEX1
        have HV3 := Lib.hid hv3
        have HSET1 := Lib.hid hset1
        have HNEW1 := Lib.hid (heap_alloc_new w3 (.cells zeroNd 47))
        have HB1 := Lib.hid hbx1
        have HE13 := Lib.hid hE13
        have HX1 := Lib.hid hEX1
        have hz3 := hE3.size
        have hzX := hEX1.size
        generalize hn : (mget M q.data.toList).getD zeroN = n at *
        have hx : Box X1 w3.heap.size (ndC n (.slice d1 n.data.length e1) (.slice a1 n.acl.length f1)) := fun j => cell_of_row _ _ _ _ _ _ HB1.out
        have hh : X1.cell? ⟨w3.heap.size, 14, none⟩ = some (.bool n.has) := hx 14
        clear CG hv3 hset1 hbx1 hEX1 hD1 hA1 hE3 hE13 hx hcr
        unfold ndC at HSET1 HB1 ⊢
        unfold zeroNd at HSET1 HNEW1
        cases hg : mget M q.data.toList with
        | none =>
          have hst : (L.take (k + 1)).flatMap (quoN M) = (L.take k).flatMap (quoN M) := by rw [HTK.out, HQ.out, hg]; simp
          have HST := Lib.hid hst
          clear hst hg hn
          go_wp2_with (refine wpList_store_row rfl 47 (.tmp 10) (.tmp 32) rfl w3.heap.size _ rfl rfl 47 _ HNEW1.out sizeNd rfl (cells_node n d1 a1 _ _ e1 f1) ?_; rw [HSET1.out])
          go_roundw
          case rel => exact ⟨k + 1, by omega, by go_num, by unfold Hid; rw [HST.out]; exact HO.out.ext HE13.out, HE.out.trans HE13.out⟩
          case measure => simp [intOf]; omega
        | some y =>
          have hny : n = y := by rw [hg] at hn; exact hn.symm
          subst hny
          cases hhas : n.has with
          | false =>
            rw [hhas] at hh
            have hst : (L.take (k + 1)).flatMap (quoN M) = (L.take k).flatMap (quoN M) := by rw [HTK.out, HQ.out, hg]; simp [hhas]
            have HST := Lib.hid hst
            rw [hhas] at HSET1 HB1
            clear hst hg hn
            go_wp2_with (refine wpList_store_row rfl 47 (.tmp 10) (.tmp 32) rfl w3.heap.size _ rfl rfl 47 _ HNEW1.out sizeNd rfl (by have := cells_node n d1 a1 n.data.length n.acl.length e1 f1; unfold ndC at this; rw [hhas] at this; exact this) ?_; rw [HSET1.out])
            go_roundw
            case rel => exact ⟨k + 1, by omega, by go_num, by unfold Hid; rw [HST.out]; exact HO.out.ext HE13.out, HE.out.trans HE13.out⟩
            case measure => simp [intOf]; omega
          | true =>
            rw [hhas] at hh
            have hst : (L.take (k + 1)).flatMap (quoN M) = (L.take k).flatMap (quoN M) ++ [n] := by rw [HTK.out, HQ.out, hg]; simp [hhas]
            have HST := Lib.hid hst
            have hnew : NdS (fun j => wr.heap.size ≤ j ∧ j < X1.heap.size) X1 (.agg (ndC n (.slice d1 n.data.length e1) (.slice a1 n.acl.length f1))) n := NdS.imp HV3.out (fun j hj => ⟨hj.1, Nat.lt_of_lt_of_le hj.2 hzX⟩) fun b o u hb hu => cell_ext HX1.out b o u hu
            have HNW := Lib.hid hnew
            have hbz : W2.heap.size ≤ wr.heap.size := HE.out.size
            have hlq : (((L.take k).flatMap (quoN M)).length + 1) * 168 ≤ 140737488355328 := by omega
            rw [hhas] at HSET1 HB1
            unfold ndC at HNW
            rw [hhas] at HNW
            clear hst hg hn hnew
            go_wp2_with (first | (refine wpList_store_row rfl 47 (.tmp 10) (.tmp 32) rfl w3.heap.size _ rfl rfl 47 _ HNEW1.out sizeNd rfl (by have := cells_node n d1 a1 n.data.length n.acl.length e1 f1; unfold ndC at this; rw [hhas] at this; exact this) ?_; rw [HSET1.out]) | (refine wpList_load_row rfl 47 (.tmp 10) rfl w3.heap.size rfl 47 _ (0, 0) _ HB1.out Tryz.underlying47 rfl sizeNd ?_) | (at_builtin; refine wpList_append_nd rfl (.tmp 40) (.tmp 42) rfl W2.heap.size ((L.take k).flatMap (quoN M)) _ HO.out HE13.out hbz n _ HNW.out hlq rfl rfl ?_))
            intro v' W6 hO6 hE6
            have HO6 := Lib.hid hO6
            have HE6 := Lib.hid (hE6 W2 (HE.out.trans HE13.out) (Nat.le_refl _))
            clear hO6 hE6 HNW
            go_wp2
            go_roundw
            case rel => exact ⟨k + 1, by omega, by go_num, by unfold Hid; rw [HST.out]; exact HO6.out, HE6.out⟩
            case measure => simp [intOf]; omega
      · obtain rfl : k = L.length := by omega
        rw [List.take_length] at HO
        have hfin : NodesOut (overL M s) w (.returned u7) wr := ⟨_, rfl, by rw [HOV.out]; exact HO.out.base HE2.out.size, HE2.out.trans hE⟩
        have HFIN := Lib.hid hfin
        clear hfin hE HO
        go_wp2
        go_ret
        exact HFIN.out
end Go.Proofs.YtamolbegmkngdaaGreatDoor
namespace Go.Proofs.YtamolbegmkngdaaGreatDoor
open Go.RowKit Go.Sort
set_option maxHeartbeats 4000000
set_option maxRecDepth 100000

theorem passes_any (bound used more : Int) (w : World) : Calls Tryz.prog 142 #[.int .i64 bound, .int .i64 used, .int .i64 more] w fun e w' => e = .returned (.bool (passB bound used more)) ∧ w = w' := by
  have hp : passB bound used more = (decide (0 < more) && bound != -1 && (decide (bound < used) || decide (wrap64 (bound - used) < more))) := rfl
  have HP := Lib.hid hp
  clear hp
  by_cases h1 : 0 < more
  · have d1 : decide (0 < more) = true := by simpa using h1
    rw [d1] at HP
    by_cases h2 : bound = -1
    · have d2 : (bound != -1) = false := by simpa using h2
      rw [d2] at HP
      subst h2
      clear d2
      go_enter Tryz.func142, Tryz.ntmps142
      go_wp2
      go_ret
      exact ⟨by rw [HP.out]; simp, rfl⟩
    · have d2 : (bound != -1) = true := by simpa using h2
      have d2' : (bound == -1) = false := by simpa using h2
      rw [d2] at HP
      by_cases h3 : bound < used
      · have d3 : decide (bound < used) = true := by simpa using h3
        rw [d3] at HP
        go_enter Tryz.func142, Tryz.ntmps142
        go_wp2
        go_ret
        exact ⟨by rw [HP.out]; simp, rfl⟩
      · have d3 : decide (bound < used) = false := by simpa using h3
        rw [d3] at HP
        by_cases h4 : wrap64 (bound - used) < more
        · have d4 : decide (wrap64 (bound - used) < more) = true := by simpa using h4
          rw [d4] at HP
          go_enter Tryz.func142, Tryz.ntmps142
          go_wp2
          go_ret
          exact ⟨by rw [HP.out]; simp, rfl⟩
        · have d4 : decide (wrap64 (bound - used) < more) = false := by simpa using h4
          rw [d4] at HP
          go_enter Tryz.func142, Tryz.ntmps142
          go_wp2
          go_ret
          exact ⟨by rw [HP.out]; simp, rfl⟩
  · have d1 : decide (0 < more) = false := by simpa using h1
    rw [d1] at HP
    go_enter Tryz.func142, Tryz.ntmps142
    go_wp2
    go_ret
    exact ⟨by rw [HP.out]; simp, rfl⟩

theorem sizeUsed : (Tryz.prog.info? 110).map (·.size) = some 2 := by kernel_rfl
def zeroUsed : Array Value := #[.int .i64 0, .int .i64 0]
def WeighF (x : Nat) : Value := .func (.func 143) #[] #[.pointer (some ⟨x, 0, none⟩)]
theorem qweigh_any (pv : Value) (hpv : ∃ po, pv = .pointer po) (w : World) : Calls Tryz.prog 85 #[pv] w fun e w' => ∃ x, e = .returned (WeighF x) ∧ w'.cell? ⟨x, 0, none⟩ = some pv ∧ w.heap.size ≤ x ∧ Ext w w' := by
  obtain ⟨po, rfl⟩ := hpv
  have hc : (w.alloc (.cells #[.pointer po] 23)).cell? ⟨w.heap.size, 0, none⟩ = some (.pointer po) := cell_of_row _ _ _ _ _ _ (heap_alloc_new w _)
  have HFIN := Lib.hid (And.intro hc (And.intro (Nat.le_refl w.heap.size) (Ext.alloc w (.cells #[.pointer po] 23))))
  clear hc
  go_enter Tryz.func85, Tryz.ntmps85
  go_wp2
  go_ret
  exact ⟨_, rfl, HFIN.out⟩

theorem qweigh1_any (x : Nat) (pv : Value) (q : ByteArray) (c b z : Int) (w : World) (hx : w.cell? ⟨x, 0, none⟩ = some pv) (hW : ∀ W, Ext w W → Calls Tryz.prog 60 #[pv, .string q] W fun e w' => e = .returned (.tuple #[.int .i64 c, .int .i64 b, .int .i64 z]) ∧ Ext W w') :
    Calls Tryz.prog 143 #[.string q, .pointer (some ⟨x, 0, none⟩)] w fun e w' => e = .returned (.agg #[.int .i64 c, .int .i64 b]) ∧ Ext w w' := by
  obtain ⟨W1, hW1⟩ : ∃ W1, W1 = w.alloc (.cells zeroUsed 110) := ⟨_, rfl⟩
  have hE1 : Ext w W1 := by rw [hW1]; exact Ext.alloc _ _
  have hr1 : W1.heap[w.heap.size]? = some (.cells zeroUsed 110 (0, 0)) := by rw [hW1]; exact heap_alloc_new w _
  have hx1 : (w.alloc (.cells zeroUsed 110)).cell? ⟨x, 0, none⟩ = some pv := by rw [← hW1]; exact (hE1.cell (p := ⟨x, 0, none⟩) (World.block_lt_of_cell? _ _ hx)).trans hx
  have CW := Lib.hid (hW W1 hE1)
  have HW1 := Lib.hid hW1
  have HR1 := Lib.hid hr1
  have HE1 := Lib.hid hE1
  unfold zeroUsed at HW1 hx1
  clear hW1 hr1 hE1 hW hx
  go_enter Tryz.func143, Tryz.ntmps143
  go_wp2_with fail
  rw [← HW1.out]
  refine CW.out.mono ?_
  rintro e W2 ⟨rfl, hE2⟩
  have hE2 : Ext W1 W2 := hE2
  have hr2 := (hE2.block w.heap.size (Array.getElem?_eq_some_iff.1 HR1.out).1).trans HR1.out
  have hr3 := setRow_heap W2 w.heap.size _ #[.int .i64 c, .int .i64 b] 110 (0, 0) hr2
  have hE3 : Ext w (W2.setRow w.heap.size #[.int .i64 c, .int .i64 b]) := (HE1.out.trans hE2).trans' ⟨rfl, rfl, rfl, by simp [World.setRow], fun k hk => setRow_other _ _ _ _ (by omega)⟩
  have HR2 := Lib.hid hr2
  have HR3 := Lib.hid hr3
  have HE3 := Lib.hid hE3
  clear hE2 hr2 hr3 hE3 CW HW1 hx1
  unfold zeroUsed at HR2
  go_wp2_with (refine wpList_store_row rfl 110 (.tmp 3) (.tmp 16) rfl w.heap.size _ rfl rfl 110 _ HR2.out sizeUsed rfl (by simp [Value.oneCell']) ?_)
  refine bodyPost_ret (v := .agg #[.int .i64 c, .int .i64 b]) ?_ rfl ⟨rfl, HE3.out⟩
  exact results_cell_row (p := 3) (ty := 110) rfl _ _ w.heap.size 110 #[.int .i64 c, .int .i64 b] (0, 0) _ rfl HR3.out Tryz.underlying110 rfl sizeUsed

/-- The first that is so. -/
def ExcOut (P : Nd → Bool) (L : List Nd) (w : World) (e : Ending) (w' : World) : Prop :=
  e = .returned (match L.find? P with | some n => .tuple #[.string n.path, .bool true] | none => .tuple #[.string ⟨#[]⟩, .bool false]) ∧ Ext w w'

theorem find_skip {P : Nd → Bool} {L : List Nd} {k : Nat} (hk : k < L.length) (h : P L[k] = false) : (L.drop k).find? P = (L.drop (k + 1)).find? P := by
  rw [List.drop_eq_getElem_cons hk, List.find?_cons, h]
theorem find_hit {P : Nd → Bool} {L : List Nd} {k : Nat} (hk : k < L.length) (h : P L[k] = true) : (L.drop k).find? P = some L[k] := by
  rw [List.drop_eq_getElem_cons hk, List.find?_cons, h]

theorem qexceeds_w (pv : Value) (M : List (Key × Nd)) (w : World) (hM : MOk M) (hG : GetsM pv M w) (s : ByteArray) (hs : s.size ≤ 9223372036854775800) (dn db : Int) (x : Nat) (uc ub : Nd → Int)
    (hU : ∀ W n, Ext w W → n ∈ overL M s → Calls Tryz.prog 143 #[.string n.path, .pointer (some ⟨x, 0, none⟩)] W fun e w' => e = .returned (.agg #[.int .i64 (uc n), .int .i64 (ub n)]) ∧ Ext W w') :
    Calls Tryz.prog 84 #[pv, .string s, .int .i64 dn, .int .i64 db, .func (.func 143) #[] #[.pointer (some ⟨x, 0, none⟩)]] w (ExcOut (fun n => passB n.count (uc n) dn || passB n.bytes (ub n) db) (overL M s) w) := by
  have C1 := Lib.hid (qover_any pv M w hM hG s hs)
  have hle := overL_le M s
  have HU := Lib.hid hU
  clear hG hU
  generalize overL M s = L at *
  generalize hPP : (fun n : Nd => passB n.count (uc n) dn || passB n.bytes (ub n) db) = PP
  have HPP := Lib.hid (fun n => (congrFun hPP n).symm)
  clear hPP
  go_enter Tryz.func84, Tryz.ntmps84
  go_wp2_with fail
  refine C1.out.mono ?_
  rintro e W1 ⟨v, rfl, hown, hE1⟩
  obtain ⟨a, c, vs, rfl, _, _, hrows, _⟩ := hown.rows
  have HROWS := Lib.hid hrows
  have HE1 := Lib.hid hE1
  have hz1 := hE1.size
  clear C1 hown hrows hE1
  go_wp2
  go_loopw [19] (fun i wr => ∃ k : Nat, k ≤ L.length ∧ i = .int .i64 k ∧ Hid (L.find? PP = (L.drop k).find? PP) ∧ Ext W1 wr) (fun i _ => L.length - (intOf i).toNat)
  case atStart => exact ⟨0, Nat.zero_le _, rfl, rfl, Ext.refl _⟩
  case round =>
    obtain ⟨k, hk, rfl, HF, hE⟩ := hrel
    by_cases hlt : k < L.length
    · obtain ⟨bl, off, da, dc, aa, ac, ea, hSb, hc, hD, hA, _⟩ := HROWS.out.row (List.getElem?_eq_getElem hlt)
      subst ea
      have hskip := find_skip (P := PP) hlt
      have hhit := find_hit (P := PP) hlt
      have hmem := List.getElem_mem hlt
      have hP := HPP.out L[k]
      generalize L[k] = n at *
      have hcw : ∀ j u, (ndC n (.slice da n.data.length dc) (.slice aa n.acl.length ac))[j]? = some u → wr.cell? ((⟨bl, off + k * 17, none⟩ : Addr).add j) = some u := fun j u hj => by
        rw [addr_add, hE.cell (p := ⟨bl, off + k * 17 + j, none⟩) hSb.2]; exact hc j u hj
      obtain ⟨X1, hX1⟩ : ∃ X1, X1 = wr.alloc (.cells (ndC n (.slice da n.data.length dc) (.slice aa n.acl.length ac)) 47) := ⟨_, rfl⟩
      have HSET1 := Lib.hid ((setRow_alloc wr zeroNd (ndC n (.slice da n.data.length dc) (.slice aa n.acl.length ac)) 47).trans hX1.symm)
      have HNEW1 := Lib.hid (heap_alloc_new wr (.cells zeroNd 47))
      have hEX1 : Ext wr X1 := by rw [hX1]; exact Ext.alloc _ _
      have hb1 : X1.heap[wr.heap.size]? = some (.cells (ndC n (.slice da n.data.length dc) (.slice aa n.acl.length ac)) 47 (0, 0)) := by rw [hX1]; exact heap_alloc_new wr _
      have hp : X1.cell? ⟨wr.heap.size, 0, none⟩ = some (.string n.path) := cell_of_row _ _ _ _ _ _ hb1
      have HE := Lib.hid (hE.trans hEX1)
      have CU := Lib.hid (HU.out X1 n (HE1.out.trans HE.out) hmem)
      have HC := Lib.hid hcw
      have HB1 := Lib.hid hb1
      have HHIT := Lib.hid hhit
      have HSKIP := Lib.hid hskip
      have HP := Lib.hid hP
      unfold ndC at HC HSET1
      unfold zeroNd at HSET1 HNEW1
      clear hcw hc hD hA hE hX1 hEX1 hb1 hskip hhit hmem hP
      go_wp2_with (first | (refine wpList_load_at rfl 47 (.tmp 21) rfl _ rfl _ _ HC.out Tryz.underlying47 rfl sizeNd ?_) | (refine wpList_store_row rfl 47 (.tmp 13) (.tmp 22) rfl wr.heap.size _ rfl rfl 47 _ HNEW1.out sizeNd rfl (cells_node n da aa _ _ dc ac) ?_; rw [HSET1.out]))
      refine CU.out.mono ?_
      rintro e X2 ⟨rfl, hE2⟩
      have hE2 : Ext X1 X2 := hE2
      obtain ⟨X3, hX3⟩ : ∃ X3, X3 = X2.alloc (.cells #[.int .i64 (uc n), .int .i64 (ub n)] 110) := ⟨_, rfl⟩
      have HSET2 := Lib.hid ((setRow_alloc X2 zeroUsed #[.int .i64 (uc n), .int .i64 (ub n)] 110).trans hX3.symm)
      have HNEW2 := Lib.hid (heap_alloc_new X2 (.cells zeroUsed 110))
      have hE3 : Ext X1 X3 := hE2.trans (by rw [hX3]; exact Ext.alloc _ _)
      have hb3 : X3.heap[X2.heap.size]? = some (.cells #[.int .i64 (uc n), .int .i64 (ub n)] 110 (0, 0)) := by rw [hX3]; exact heap_alloc_new X2 _
      have hbn : X3.heap[wr.heap.size]? = some (.cells (ndC n (.slice da n.data.length dc) (.slice aa n.acl.length ac)) 47 (0, 0)) := (hE3.block wr.heap.size (Array.getElem?_eq_some_iff.1 HB1.out).1).trans HB1.out
      have u0 : X3.cell? ⟨X2.heap.size, 0, none⟩ = some (.int .i64 (uc n)) := cell_of_row _ _ _ _ _ _ hb3
      have u1 : X3.cell? ⟨X2.heap.size, 1, none⟩ = some (.int .i64 (ub n)) := cell_of_row _ _ _ _ _ _ hb3
      have n0 : X3.cell? ⟨wr.heap.size, 0, none⟩ = some (.string n.path) := cell_of_row _ _ _ _ _ _ hbn
      have n15 : X3.cell? ⟨wr.heap.size, 15, none⟩ = some (.int .i64 n.count) := cell_of_row _ _ _ _ _ _ hbn
      have n16 : X3.cell? ⟨wr.heap.size, 16, none⟩ = some (.int .i64 n.bytes) := cell_of_row _ _ _ _ _ _ hbn
      have CP1 := Lib.hid (passes_any n.count (uc n) dn X3)
      have CP2 := Lib.hid (passes_any n.bytes (ub n) db X3)
      have HE3 := Lib.hid (HE.out.trans hE3)
      unfold zeroUsed at HSET2 HNEW2
      clear CU hE2 hX3 hE3 hb3 hbn hp HB1 HC HSET1 HNEW1
      have hfin : PP n = true → ExcOut PP L w (.returned (.tuple #[.string n.path, .bool true])) X3 := fun h => ⟨by rw [HF.out, HHIT.out h], HE1.out.trans HE3.out⟩
      have HFIN := Lib.hid hfin
      clear hfin
      cases h1 : passB n.count (uc n) dn with
      | true =>
        rw [h1] at CP1 HP
        have HX := Lib.hid (HFIN.out (by rw [HP.out]; rfl))
        clear h1 HFIN CP2
        go_wp2_with (refine wpList_store_row rfl 110 (.tmp 14) (.tmp 26) rfl X2.heap.size _ rfl rfl 110 _ HNEW2.out sizeUsed rfl (by simp [Value.oneCell']) ?_; rw [HSET2.out])
        refine CP1.out.mono ?_
        rintro e X4 ⟨rfl, rfl⟩
        clear CP1
        go_wp2
        go_ret2
        exact HX.out
      | false =>
        rw [h1] at CP1 HP
        cases h2 : passB n.bytes (ub n) db with
        | true =>
          rw [h2] at CP2 HP
          have HX := Lib.hid (HFIN.out (by rw [HP.out]; rfl))
          clear h1 h2 HFIN
          go_wp2_with (refine wpList_store_row rfl 110 (.tmp 14) (.tmp 26) rfl X2.heap.size _ rfl rfl 110 _ HNEW2.out sizeUsed rfl (by simp [Value.oneCell']) ?_; rw [HSET2.out])
          refine CP1.out.mono ?_
          rintro e X4 ⟨rfl, rfl⟩
          clear CP1
          go_wp2_with fail
          refine CP2.out.mono ?_
          rintro e X5 ⟨rfl, rfl⟩
          clear CP2
          go_wp2
          go_ret2
          exact HX.out
        | false =>
          rw [h2] at CP2 HP
          have hf := HF.out.trans (HSKIP.out (by rw [HP.out]; rfl))
          have HF2 := Lib.hid hf
          clear h1 h2 HFIN hf
          go_wp2_with (refine wpList_store_row rfl 110 (.tmp 14) (.tmp 26) rfl X2.heap.size _ rfl rfl 110 _ HNEW2.out sizeUsed rfl (by simp [Value.oneCell']) ?_; rw [HSET2.out])
          refine CP1.out.mono ?_
          rintro e X4 ⟨rfl, rfl⟩
          clear CP1
          go_wp2_with fail
          refine CP2.out.mono ?_
          rintro e X5 ⟨rfl, rfl⟩
          clear CP2 u0 u1 n0 n15 n16
          go_wp2
          go_roundw
          case rel => exact ⟨k + 1, by omega, by go_num, HF2.out, HE3.out⟩
          case measure => simp [intOf]; omega
    · obtain rfl : k = L.length := by omega
      have hfin : ExcOut PP L w (.returned (.tuple #[.string ⟨#[]⟩, .bool false])) wr := ⟨by rw [HF.out, List.drop_length]; rfl, HE1.out.trans hE⟩
      have HFIN := Lib.hid hfin
      clear hfin hE
      go_wp2
      go_ret2
      exact HFIN.out

/-- What Weigh answers at the paths that have quotas. -/
def WeighsM (pv : Value) (M : List (Key × Nd)) (w : World) : Prop := ∀ W (n : Nd), Ext w W → mget M n.path.data.toList = some n → Calls Tryz.prog 60 #[pv, .string n.path] W fun e w' => e = .returned (.tuple #[.int .i64 (undK M n.path).length, .int .i64 (bytesK M (undK M n.path)), .int .i64 0]) ∧ Ext W w'
theorem WeighsM.of_tree {S : Nat → Prop} {w : World} {bt : Nat} {M : List (Key × Nd)} {N : Nat} (hT : TreeAt S w bt M N) (hc : Clo M) (hl : M.length * 168 ≤ 140737488355328) : WeighsM (.pointer (some ⟨bt, 0, none⟩)) M w := fun W n hE hg => by
  have hp := (right_fit (hT.ok.at hg).2).1.path
  refine (weigh_any S W bt M N (hT.ext hE) hc n.path (by unfold maxLen; omega) hl).mono fun e w' h => ?_
  obtain ⟨rfl, h2⟩ := h
  rw [hg]
  exact ⟨rfl, h2⟩
theorem WeighsM.nil (pv : Value) (w : World) : WeighsM pv [] w := fun W n _ hg => by simp [mget] at hg

theorem qExceeds_any (pv : Value) (hpv : ∃ po, pv = .pointer po) (M : List (Key × Nd)) (w : World) (hM : MOk M) (hG : GetsM pv M w) (hWe : WeighsM pv M w) (s : ByteArray) (hs : s.size ≤ 9223372036854775800) (dn db : Int) :
    Calls Tryz.prog 19 #[pv, .string s, .int .i64 dn, .int .i64 db] w (ExcOut (overB M dn db) (overL M s) w) := by
  have C1 := Lib.hid (qweigh_any pv hpv w)
  have C2 := fun W (x : Nat) (hE : Ext w W) (hx : W.cell? ⟨x, 0, none⟩ = some pv) => (show Calls Tryz.prog 84 #[pv, .string s, .int .i64 dn, .int .i64 db, .func (.func 143) #[] #[.pointer (some ⟨x, 0, none⟩)]] W (ExcOut (overB M dn db) (overL M s) W) from
    qexceeds_w pv M W hM (fun W' t h1 h2 => hG W' t (hE.trans h1) h2) s hs dn db x (fun n => ((undK M n.path).length : Int)) (fun n => (bytesK M (undK M n.path) : Int)) (fun W' n h1 h2 =>
    qweigh1_any x pv n.path _ _ 0 W' ((h1.cell (p := ⟨x, 0, none⟩) (World.block_lt_of_cell? _ _ hx)).trans hx) fun W2 h3 => hWe W2 n ((hE.trans h1).trans h3) (overL_there hM h2).1))
  unfold ExcOut at C2 ⊢
  clear hG hWe hpv
  cases hf : (overL M s).find? (overB M dn db) with
  | none =>
    simp only [hf] at C2
    have C2 := Lib.hid C2
    clear hf
    go_enter Tryz.func19, Tryz.ntmps19
    go_wp2_with fail
    refine C1.out.mono ?_
    rintro e W1 ⟨x, rfl, hx, hxl, hE1⟩
    have C3 := Lib.hid (C2.out W1 x hE1 hx)
    have HE1 : Hid (Ext w W1) := hE1
    unfold WeighF
    clear C1 C2 hx hE1
    go_wp2_with fail
    refine C3.out.mono ?_
    rintro e W2 ⟨rfl, hE2⟩
    have HFIN : Hid (Ext w W2) := HE1.out.trans hE2
    clear C3 hE2
    go_wp2
    go_ret2
    exact ⟨rfl, HFIN.out⟩
  | some n =>
    simp only [hf] at C2
    have C2 := Lib.hid C2
    clear hf
    go_enter Tryz.func19, Tryz.ntmps19
    go_wp2_with fail
    refine C1.out.mono ?_
    rintro e W1 ⟨x, rfl, hx, hxl, hE1⟩
    have C3 := Lib.hid (C2.out W1 x hE1 hx)
    have HE1 : Hid (Ext w W1) := hE1
    unfold WeighF
    clear C1 C2 hx hE1
    go_wp2_with fail
    refine C3.out.mono ?_
    rintro e W2 ⟨rfl, hE2⟩
    have HFIN : Hid (Ext w W2) := HE1.out.trans hE2
    clear C3 hE2
    go_wp2
    go_ret2
    exact ⟨rfl, HFIN.out⟩
end Go.Proofs.YtamolbegmkngdaaGreatDoor
