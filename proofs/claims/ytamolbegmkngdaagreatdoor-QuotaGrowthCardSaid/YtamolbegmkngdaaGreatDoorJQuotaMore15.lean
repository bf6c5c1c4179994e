/- The walks of package quota's passes, weigh, exceeds, Exceeds. The walks of arborlaw10's own, no, laid, sameTexts. The walks of arborref05's New and arborref07's Root. A region that draws its order, whose operations' values are either told or have a property that new memory leaves. The walk of package quota's Begin: what is used at the quotas of a tree. The walk of a quota book's Used. -/
import Derived.Test.YtamolbegmkngdaaGreatDoorJQuotaMore14
import Derived.Test.YtamolbegmkngdaaGreatDoorJQuotaMore12
import Derived.Test.YtamolbegmkngdaaGreatDoorJQuotaMore11
import Derived.Test.YtamolbegmkngdaaGreatDoorJQuotaMore5
import Derived.Test.YtamolbegmkngdaaGreatDoorJQuotaMore8
import Derived.Test.YtamolbegmkngdaaGreatDoorJQuotaMore9
import Derived.Test.YtamolbegmkngdaaGreatDoorJQuotaMore13
namespace Go.Proofs.YtamolbegmkngdaaGreatDoor
open Go.RowKit Go.Sort
set_option maxHeartbeats 4000000
set_option maxRecDepth 100000

theorem passes_any (bound used more : Int) (w : World) : Calls Tryz.prog 142 #[.int .i64 bound, .int .i64 used, .int .i64 more] w fun e w' => e = .returned (.bool (passB bound used more)) ∧ w = w' := by
  have hp : passB bound used more = (decide (0 < more) && bound != -1 && (decide (bound < used) || decide (wrap64 (bound - used) < more))) := rfl
  have HP := Lib.hid hp
  clear hp
  by_cases h1 : 0 < more
  · have d1 : decide (0 < more) = true := by simpa using h1
    rw [d1] at HP
    by_cases h2 : bound = -1
    · have d2 : (bound != -1) = false := by simpa using h2
      rw [d2] at HP
      subst h2
      clear d2
      go_enter Tryz.func142, Tryz.ntmps142
      go_wp2
      go_ret
      exact ⟨by rw [HP.out]; simp, rfl⟩
    · have d2 : (bound != -1) = true := by simpa using h2
      have d2' : (bound == -1) = false := by simpa using h2
      rw [d2] at HP
      by_cases h3 : bound < used
      · have d3 : decide (bound < used) = true := by simpa using h3
        rw [d3] at HP
        go_enter Tryz.func142, Tryz.ntmps142
        go_wp2
        go_ret
        exact ⟨by rw [HP.out]; simp, rfl⟩
      · have d3 : decide (bound < used) = false := by simpa using h3
        rw [d3] at HP
        by_cases h4 : wrap64 (bound - used) < more
        · have d4 : decide (wrap64 (bound - used) < more) = true := by simpa using h4
          rw [d4] at HP
          go_enter Tryz.func142, Tryz.ntmps142
          go_wp2
          go_ret
          exact ⟨by rw [HP.out]; simp, rfl⟩
        · have d4 : decide (wrap64 (bound - used) < more) = false := by simpa using h4
          rw [d4] at HP
          go_enter Tryz.func142, Tryz.ntmps142
          go_wp2
          go_ret
          exact ⟨by rw [HP.out]; simp, rfl⟩
  · have d1 : decide (0 < more) = false := by simpa using h1
    rw [d1] at HP
    go_enter Tryz.func142, Tryz.ntmps142
    go_wp2
    go_ret
    exact ⟨by rw [HP.out]; simp, rfl⟩

theorem sizeUsed : (Tryz.prog.info? 110).map (·.size) = some 2 := by kernel_rfl
def zeroUsed : Array Value := #[.int .i64 0, .int .i64 0]
def WeighF (x : Nat) : Value := .func (.func 143) #[] #[.pointer (some ⟨x, 0, none⟩)]
theorem qweigh_any (pv : Value) (hpv : ∃ po, pv = .pointer po) (w : World) : Calls Tryz.prog 85 #[pv] w fun e w' => ∃ x, e = .returned (WeighF x) ∧ w'.cell? ⟨x, 0, none⟩ = some pv ∧ w.heap.size ≤ x ∧ Ext w w' := by
  obtain ⟨po, rfl⟩ := hpv
  have hc : (w.alloc (.cells #[.pointer po] 23)).cell? ⟨w.heap.size, 0, none⟩ = some (.pointer po) := cell_of_row _ _ _ _ _ _ (heap_alloc_new w _)
  have HFIN := Lib.hid (And.intro hc (And.intro (Nat.le_refl w.heap.size) (Ext.alloc w (.cells #[.pointer po] 23))))
  clear hc
  go_enter Tryz.func85, Tryz.ntmps85
  go_wp2
  go_ret
  exact ⟨_, rfl, HFIN.out⟩

theorem qweigh1_any (x : Nat) (pv : Value) (q : ByteArray) (c b z : Int) (w : World) (hx : w.cell? ⟨x, 0, none⟩ = some pv) (hW : ∀ W, Ext w W → Calls Tryz.prog 60 #[pv, .string q] W fun e w' => e = .returned (.tuple #[.int .i64 c, .int .i64 b, .int .i64 z]) ∧ Ext W w') :
    Calls Tryz.prog 143 #[.string q, .pointer (some ⟨x, 0, none⟩)] w fun e w' => e = .returned (.agg #[.int .i64 c, .int .i64 b]) ∧ Ext w w' := by
  obtain ⟨W1, hW1⟩ : ∃ W1, W1 = w.alloc (.cells zeroUsed 110) := ⟨_, rfl⟩
  have hE1 : Ext w W1 := by rw [hW1]; exact Ext.alloc _ _
  have hr1 : W1.heap[w.heap.size]? = some (.cells zeroUsed 110 (0, 0)) := by rw [hW1]; exact heap_alloc_new w _
  have hx1 : (w.alloc (.cells zeroUsed 110)).cell? ⟨x, 0, none⟩ = some pv := by rw [← hW1]; exact (hE1.cell (p := ⟨x, 0, none⟩) (World.block_lt_of_cell? _ _ hx)).trans hx
  have CW := Lib.hid (hW W1 hE1)
  have HW1 := Lib.hid hW1
  have HR1 := Lib.hid hr1
  have HE1 := Lib.hid hE1
  unfold zeroUsed at HW1 hx1
  clear hW1 hr1 hE1 hW hx
  go_enter Tryz.func143, Tryz.ntmps143
  go_wp2_with fail
  rw [← HW1.out]
  refine CW.out.mono ?_
  rintro e W2 ⟨rfl, hE2⟩
  have hE2 : Ext W1 W2 := hE2
  have hr2 := (hE2.block w.heap.size (Array.getElem?_eq_some_iff.1 HR1.out).1).trans HR1.out
  have hr3 := setRow_heap W2 w.heap.size _ #[.int .i64 c, .int .i64 b] 110 (0, 0) hr2
  have hE3 : Ext w (W2.setRow w.heap.size #[.int .i64 c, .int .i64 b]) := (HE1.out.trans hE2).trans' ⟨rfl, rfl, rfl, by simp [World.setRow], fun k hk => setRow_other _ _ _ _ (by omega)⟩
  have HR2 := Lib.hid hr2
  have HR3 := Lib.hid hr3
  have HE3 := Lib.hid hE3
  clear hE2 hr2 hr3 hE3 CW HW1 hx1
  unfold zeroUsed at HR2
  go_wp2_with (refine wpList_store_row rfl 110 (.tmp 3) (.tmp 16) rfl w.heap.size _ rfl rfl 110 _ HR2.out sizeUsed rfl (by simp [Value.oneCell']) ?_)
  refine bodyPost_ret (v := .agg #[.int .i64 c, .int .i64 b]) ?_ rfl ⟨rfl, HE3.out⟩
  exact results_cell_row (p := 3) (ty := 110) rfl _ _ w.heap.size 110 #[.int .i64 c, .int .i64 b] (0, 0) _ rfl HR3.out Tryz.underlying110 rfl sizeUsed

/-- The first that is so. -/
def ExcOut (P : Nd → Bool) (L : List Nd) (w : World) (e : Ending) (w' : World) : Prop :=
  e = .returned (match L.find? P with | some n => .tuple #[.string n.path, .bool true] | none => .tuple #[.string ⟨#[]⟩, .bool false]) ∧ Ext w w'

theorem find_skip {P : Nd → Bool} {L : List Nd} {k : Nat} (hk : k < L.length) (h : P L[k] = false) : (L.drop k).find? P = (L.drop (k + 1)).find? P := by
  rw [List.drop_eq_getElem_cons hk, List.find?_cons, h]
theorem find_hit {P : Nd → Bool} {L : List Nd} {k : Nat} (hk : k < L.length) (h : P L[k] = true) : (L.drop k).find? P = some L[k] := by
  rw [List.drop_eq_getElem_cons hk, List.find?_cons, h]

theorem qexceeds_w (pv : Value) (M : List (Key × Nd)) (w : World) (hM : MOk M) (hG : GetsM pv M w) (s : ByteArray) (hs : s.size ≤ 9223372036854775800) (dn db : Int) (x : Nat) (uc ub : Nd → Int)
    (hU : ∀ W n, Ext w W → n ∈ overL M s → Calls Tryz.prog 143 #[.string n.path, .pointer (some ⟨x, 0, none⟩)] W fun e w' => e = .returned (.agg #[.int .i64 (uc n), .int .i64 (ub n)]) ∧ Ext W w') :
    Calls Tryz.prog 84 #[pv, .string s, .int .i64 dn, .int .i64 db, .func (.func 143) #[] #[.pointer (some ⟨x, 0, none⟩)]] w (ExcOut (fun n => passB n.count (uc n) dn || passB n.bytes (ub n) db) (overL M s) w) := by
  have C1 := Lib.hid (qover_any pv M w hM hG s hs)
  have hle := overL_le M s
  have HU := Lib.hid hU
  clear hG hU
  generalize overL M s = L at *
  generalize hPP : (fun n : Nd => passB n.count (uc n) dn || passB n.bytes (ub n) db) = PP
  have HPP := Lib.hid (fun n => (congrFun hPP n).symm)
  clear hPP
  go_enter Tryz.func84, Tryz.ntmps84
  go_wp2_with fail
  refine C1.out.mono ?_
  rintro e W1 ⟨v, rfl, hown, hE1⟩
  obtain ⟨a, c, vs, rfl, _, _, hrows, _⟩ := hown.rows
  have HROWS := Lib.hid hrows
  have HE1 := Lib.hid hE1
  have hz1 := hE1.size
  clear C1 hown hrows hE1
  go_wp2
  go_loopw [19] (fun i wr => ∃ k : Nat, k ≤ L.length ∧ i = .int .i64 k ∧ Hid (L.find? PP = (L.drop k).find? PP) ∧ Ext W1 wr) (fun i _ => L.length - (intOf i).toNat)
  case atStart => exact ⟨0, Nat.zero_le _, rfl, rfl, Ext.refl _⟩
  case round =>
    obtain ⟨k, hk, rfl, HF, hE⟩ := hrel
    by_cases hlt : k < L.length
    · obtain ⟨bl, off, da, dc, aa, ac, ea, hSb, hc, hD, hA, _⟩ := HROWS.out.row (List.getElem?_eq_getElem hlt)
      subst ea
      have hskip := find_skip (P := PP) hlt
      have hhit := find_hit (P := PP) hlt
      have hmem := List.getElem_mem hlt
      have hP := HPP.out L[k]
      generalize L[k] = n at *
      have hcw : ∀ j u, (ndC n (.slice da n.data.length dc) (.slice aa n.acl.length ac))[j]? = some u → wr.cell? ((⟨bl, off + k * 17, none⟩ : Addr).add j) = some u := fun j u hj => by
        rw [addr_add, hE.cell (p := ⟨bl, off + k * 17 + j, none⟩) hSb.2]; exact hc j u hj
      obtain ⟨X1, hX1⟩ : ∃ X1, X1 = wr.alloc (.cells (ndC n (.slice da n.data.length dc) (.slice aa n.acl.length ac)) 47) := ⟨_, rfl⟩
      have HSET1 := Lib.hid ((setRow_alloc wr zeroNd (ndC n (.slice da n.data.length dc) (.slice aa n.acl.length ac)) 47).trans hX1.symm)
      have HNEW1 := Lib.hid (heap_alloc_new wr (.cells zeroNd 47))
      have hEX1 : Ext wr X1 := by rw [hX1]; exact Ext.alloc _ _
      have hb1 : X1.heap[wr.heap.size]? = some (.cells (ndC n (.slice da n.data.length dc) (.slice aa n.acl.length ac)) 47 (0, 0)) := by rw [hX1]; exact heap_alloc_new wr _
      have hp : X1.cell? ⟨wr.heap.size, 0, none⟩ = some (.string n.path) := cell_of_row _ _ _ _ _ _ hb1
      have HE := Lib.hid (hE.trans hEX1)
      have CU := Lib.hid (HU.out X1 n (HE1.out.trans HE.out) hmem)
      have HC := Lib.hid hcw
      have HB1 := Lib.hid hb1
      have HHIT := Lib.hid hhit
      have HSKIP := Lib.hid hskip
      have HP := Lib.hid hP
      unfold ndC at HC HSET1
      unfold zeroNd at HSET1 HNEW1
      clear hcw hc hD hA hE hX1 hEX1 hb1 hskip hhit hmem hP
      go_wp2_with (first | (refine wpList_load_at rfl 47 (.tmp 21) rfl _ rfl _ _ HC.out Tryz.underlying47 rfl sizeNd ?_) | (refine wpList_store_row rfl 47 (.tmp 13) (.tmp 22) rfl wr.heap.size _ rfl rfl 47 _ HNEW1.out sizeNd rfl (cells_node n da aa _ _ dc ac) ?_; rw [HSET1.out]))
      refine CU.out.mono ?_
      rintro e X2 ⟨rfl, hE2⟩
      have hE2 : Ext X1 X2 := hE2
      obtain ⟨X3, hX3⟩ : ∃ X3, X3 = X2.alloc (.cells #[.int .i64 (uc n), .int .i64 (ub n)] 110) := ⟨_, rfl⟩
      have HSET2 := Lib.hid ((setRow_alloc X2 zeroUsed #[.int .i64 (uc n), .int .i64 (ub n)] 110).trans hX3.symm)
      have HNEW2 := Lib.hid (heap_alloc_new X2 (.cells zeroUsed 110))
      have hE3 : Ext X1 X3 := hE2.trans (by rw [hX3]; exact Ext.alloc _ _)
      have hb3 : X3.heap[X2.heap.size]? = some (.cells #[.int .i64 (uc n), .int .i64 (ub n)] 110 (0, 0)) := by rw [hX3]; exact heap_alloc_new X2 _
      have hbn : X3.heap[wr.heap.size]? = some (.cells (ndC n (.slice da n.data.length dc) (.slice aa n.acl.length ac)) 47 (0, 0)) := (hE3.block wr.heap.size (Array.getElem?_eq_some_iff.1 HB1.out).1).trans HB1.out
      have u0 : X3.cell? ⟨X2.heap.size, 0, none⟩ = some (.int .i64 (uc n)) := cell_of_row _ _ _ _ _ _ hb3
      have u1 : X3.cell? ⟨X2.heap.size, 1, none⟩ = some (.int .i64 (ub n)) := cell_of_row _ _ _ _ _ _ hb3
      have n0 : X3.cell? ⟨wr.heap.size, 0, none⟩ = some (.string n.path) := cell_of_row _ _ _ _ _ _ hbn
      have n15 : X3.cell? ⟨wr.heap.size, 15, none⟩ = some (.int .i64 n.count) := cell_of_row _ _ _ _ _ _ hbn
      have n16 : X3.cell? ⟨wr.heap.size, 16, none⟩ = some (.int .i64 n.bytes) := cell_of_row _ _ _ _ _ _ hbn
      have CP1 := Lib.hid (passes_any n.count (uc n) dn X3)
      have CP2 := Lib.hid (passes_any n.bytes (ub n) db X3)
      have HE3 := Lib.hid (HE.out.trans hE3)
      unfold zeroUsed at HSET2 HNEW2
      clear CU hE2 hX3 hE3 hb3 hbn hp HB1 HC HSET1 HNEW1
      have hfin : PP n = true → ExcOut PP L w (.returned (.tuple #[.string n.path, .bool true])) X3 := fun h => ⟨by rw [HF.out, HHIT.out h], HE1.out.trans HE3.out⟩
      have HFIN := Lib.hid hfin
      clear hfin
      cases h1 : passB n.count (uc n) dn with
      | true =>
        rw [h1] at CP1 HP
        have HX := Lib.hid (HFIN.out (by rw [HP.out]; rfl))
        clear h1 HFIN CP2
        go_wp2_with (refine wpList_store_row rfl 110 (.tmp 14) (.tmp 26) rfl X2.heap.size _ rfl rfl 110 _ HNEW2.out sizeUsed rfl (by simp [Value.oneCell']) ?_; rw [HSET2.out])
        refine CP1.out.mono ?_
        rintro e X4 ⟨rfl, rfl⟩
        clear CP1
        go_wp2
        go_ret2
        exact HX.out
      | false =>
        rw [h1] at CP1 HP
        cases h2 : passB n.bytes (ub n) db with
        | true =>
          rw [h2] at CP2 HP
          have HX := Lib.hid (HFIN.out (by rw [HP.out]; rfl))
          clear h1 h2 HFIN
          go_wp2_with (refine wpList_store_row rfl 110 (.tmp 14) (.tmp 26) rfl X2.heap.size _ rfl rfl 110 _ HNEW2.out sizeUsed rfl (by simp [Value.oneCell']) ?_; rw [HSET2.out])
          refine CP1.out.mono ?_
          rintro e X4 ⟨rfl, rfl⟩
          clear CP1
          go_wp2_with fail
          refine CP2.out.mono ?_
          rintro e X5 ⟨rfl, rfl⟩
          clear CP2
          go_wp2
          go_ret2
          exact HX.out
        | false =>
          rw [h2] at CP2 HP
          have hf := HF.out.trans (HSKIP.out (by rw [HP.out]; rfl))
          have HF2 := Lib.hid hf
          clear h1 h2 HFIN hf
          go_wp2_with (refine wpList_store_row rfl 110 (.tmp 14) (.tmp 26) rfl X2.heap.size _ rfl rfl 110 _ HNEW2.out sizeUsed rfl (by simp [Value.oneCell']) ?_; rw [HSET2.out])
          refine CP1.out.mono ?_
          rintro e X4 ⟨rfl, rfl⟩
          clear CP1
          go_wp2_with fail
          refine CP2.out.mono ?_
          rintro e X5 ⟨rfl, rfl⟩
          clear CP2 u0 u1 n0 n15 n16
          go_wp2
          go_roundw
          case rel => exact ⟨k + 1, by omega, by go_num, HF2.out, HE3.out⟩
          case measure => simp [intOf]; omega
    · obtain rfl : k = L.length := by omega
      have hfin : ExcOut PP L w (.returned (.tuple #[.string ⟨#[]⟩, .bool false])) wr := ⟨by rw [HF.out, List.drop_length]; rfl, HE1.out.trans hE⟩
      have HFIN := Lib.hid hfin
      clear hfin hE
      go_wp2
      go_ret2
      exact HFIN.out

/-- What Weigh answers at the paths that have quotas. -/
def WeighsM (pv : Value) (M : List (Key × Nd)) (w : World) : Prop := ∀ W (n : Nd), Ext w W → mget M n.path.data.toList = some n → Calls Tryz.prog 60 #[pv, .string n.path] W fun e w' => e = .returned (.tuple #[.int .i64 (undK M n.path).length, .int .i64 (bytesK M (undK M n.path)), .int .i64 0]) ∧ Ext W w'
theorem WeighsM.of_tree {S : Nat → Prop} {w : World} {bt : Nat} {M : List (Key × Nd)} {N : Nat} (hT : TreeAt S w bt M N) (hc : Clo M) (hl : M.length * 168 ≤ 140737488355328) : WeighsM (.pointer (some ⟨bt, 0, none⟩)) M w := fun W n hE hg => by
  have hp := (right_fit (hT.ok.at hg).2).1.path
  refine (weigh_any S W bt M N (hT.ext hE) hc n.path (by unfold maxLen; omega) hl).mono fun e w' h => ?_
  obtain ⟨rfl, h2⟩ := h
  rw [hg]
  exact ⟨rfl, h2⟩
theorem WeighsM.nil (pv : Value) (w : World) : WeighsM pv [] w := fun W n _ hg => by simp [mget] at hg

theorem qExceeds_any (pv : Value) (hpv : ∃ po, pv = .pointer po) (M : List (Key × Nd)) (w : World) (hM : MOk M) (hG : GetsM pv M w) (hWe : WeighsM pv M w) (s : ByteArray) (hs : s.size ≤ 9223372036854775800) (dn db : Int) :
    Calls Tryz.prog 19 #[pv, .string s, .int .i64 dn, .int .i64 db] w (ExcOut (overB M dn db) (overL M s) w) := by
  have C1 := Lib.hid (qweigh_any pv hpv w)
  have C2 := fun W (x : Nat) (hE : Ext w W) (hx : W.cell? ⟨x, 0, none⟩ = some pv) => (show Calls Tryz.prog 84 #[pv, .string s, .int .i64 dn, .int .i64 db, .func (.func 143) #[] #[.pointer (some ⟨x, 0, none⟩)]] W (ExcOut (overB M dn db) (overL M s) W) from
    qexceeds_w pv M W hM (fun W' t h1 h2 => hG W' t (hE.trans h1) h2) s hs dn db x (fun n => ((undK M n.path).length : Int)) (fun n => (bytesK M (undK M n.path) : Int)) (fun W' n h1 h2 =>
    qweigh1_any x pv n.path _ _ 0 W' ((h1.cell (p := ⟨x, 0, none⟩) (World.block_lt_of_cell? _ _ hx)).trans hx) fun W2 h3 => hWe W2 n ((hE.trans h1).trans h3) (overL_there hM h2).1))
  unfold ExcOut at C2 ⊢
  clear hG hWe hpv
  cases hf : (overL M s).find? (overB M dn db) with
  | none =>
    simp only [hf] at C2
    have C2 := Lib.hid C2
    clear hf
    go_enter Tryz.func19, Tryz.ntmps19
    go_wp2_with fail
    refine C1.out.mono ?_
    rintro e W1 ⟨x, rfl, hx, hxl, hE1⟩
    have C3 := Lib.hid (C2.out W1 x hE1 hx)
    have HE1 : Hid (Ext w W1) := hE1
    unfold WeighF
    clear C1 C2 hx hE1
    go_wp2_with fail
    refine C3.out.mono ?_
    rintro e W2 ⟨rfl, hE2⟩
    have HFIN : Hid (Ext w W2) := HE1.out.trans hE2
    clear C3 hE2
    go_wp2
    go_ret2
    exact ⟨rfl, HFIN.out⟩
  | some n =>
    simp only [hf] at C2
    have C2 := Lib.hid C2
    clear hf
    go_enter Tryz.func19, Tryz.ntmps19
    go_wp2_with fail
    refine C1.out.mono ?_
    rintro e W1 ⟨x, rfl, hx, hxl, hE1⟩
    have C3 := Lib.hid (C2.out W1 x hE1 hx)
    have HE1 : Hid (Ext w W1) := hE1
    unfold WeighF
    clear C1 C2 hx hE1
    go_wp2_with fail
    refine C3.out.mono ?_
    rintro e W2 ⟨rfl, hE2⟩
    have HFIN : Hid (Ext w W2) := HE1.out.trans hE2
    clear C3 hE2
    go_wp2
    go_ret2
    exact ⟨rfl, HFIN.out⟩
end Go.Proofs.YtamolbegmkngdaaGreatDoor
namespace Go.Proofs.YtamolbegmkngdaaGreatDoor
open Go.RowKit Go.Sort
set_option maxHeartbeats 4000000
set_option maxRecDepth 100000

theorem OwnN.nds {L : List Nd} {base : Nat} {v : Value} {w : World} (h : OwnN base L v w) : ∃ a c, v = .slice a L.length c ∧ NdsAt w.heap.size w a L := by
  obtain ⟨a, c, vs, rfl, _, _, hr, _⟩ := h.rows
  exact ⟨a, c, rfl, hr.nds fun k hk => hk.2⟩

theorem own10_any (L : List Nd) (a : Option Addr) (c : Nat) (w : World) (hL : NdsAt w.heap.size w a L) (hf : ∀ n ∈ L, Fit n) (hl : L.length * 168 ≤ 140737488355328) :
    Calls Tryz.prog 65 #[.slice a L.length c] w (NodesOut L w) := by
  have HL := Lib.hid hL
  have HF := Lib.hid hf
  have hl64 : L.length ≤ 9223372036854775807 := by omega
  clear hL hf
  go_enter Tryz.func65, Tryz.ntmps65
  go_wp2
  go_loopw [3, 4] (fun ov i wr => ∃ k : Nat, k ≤ L.length ∧ i = .int .i64 k ∧ Hid (OwnN w.heap.size (L.take k) ov wr) ∧ Ext w wr) (fun _ i _ => L.length - (intOf i).toNat)
  case atStart => exact ⟨0, Nat.zero_le _, rfl, OwnN.nil _ _, Ext.refl _⟩
  case round =>
    obtain ⟨k, hk, rfl, HO, hE⟩ := hrel
    by_cases hlt : k < L.length
    · obtain ⟨b1, o1, v1, rfl, hb1, hv1, hc1⟩ := HL.out k L[k] (List.getElem?_eq_getElem hlt)
      have hfit := HF.out L[k] (List.getElem_mem hlt)
      have htk : L.take (k + 1) = L.take k ++ [L[k]] := List.take_succ_eq_append_getElem hlt
      generalize L[k] = n at *
      obtain ⟨da, dc, aa, ac, rfl, hD, hAc⟩ := hv1
      have hcw : ∀ j u, (ndC n (.slice da n.data.length dc) (.slice aa n.acl.length ac))[j]? = some u → wr.cell? ((⟨b1, o1 + k * 17, none⟩ : Addr).add j) = some u := fun j u hj => by
        rw [addr_add, hE.cell (p := ⟨b1, o1 + k * 17 + j, none⟩) hb1]; exact hc1 j u hj
      have CC := Lib.hid (rclone_new n da aa dc ac wr hfit (hD.ext hE) (hAc.ext hE))
      have HC := Lib.hid hcw
      have HE := Lib.hid hE
      have HTK := Lib.hid htk
      have hzr := hE.size
      have hll : ((L.take k).length + 1) * 168 ≤ 140737488355328 := by rw [List.length_take]; omega
      unfold ndC at HC
      clear hcw hc1 hD hAc hE htk hfit
      go_wp2_with (refine wpList_load_at rfl 47 (.tmp 14) rfl _ rfl _ _ HC.out Tryz.underlying47 rfl sizeNd ?_)
      refine CC.out.mono ?_
      rintro e W5 ⟨v, rfl, hN, hE5⟩
      have HE5 := Lib.hid hE5
      have HN := Lib.hid hN
      obtain ⟨qa, qc, ra, rc, rfl, _, _⟩ := hN
      unfold ndC at HN ⊢
      clear hE5 CC HC
      go_wp2_with (at_builtin; refine wpList_append_nd rfl (.tmp 11) (.tmp 17) rfl w.heap.size (L.take k) _ HO.out HE5.out (by omega) n _ HN.out hll rfl rfl ?_)
      intro v' W6 hO6 hE6
      have HO6 := Lib.hid hO6
      have HE6 := Lib.hid (hE6 w (HE.out.trans HE5.out) (Nat.le_refl _))
      clear hO6 hE6
      go_wp2
      go_roundw
      case rel => exact ⟨k + 1, by omega, by go_num, by unfold Hid; rw [HTK.out]; exact HO6.out, HE6.out⟩
      case measure => simp [intOf]; omega
    · obtain rfl : k = L.length := by omega
      rw [List.take_length] at HO
      have hfin : NodesOut L w (.returned u3) wr := ⟨_, rfl, HO.out, hE⟩
      have HFIN := Lib.hid hfin
      clear hfin hE HO
      go_wp2
      go_ret
      exact HFIN.out

theorem no10_any (x : Int) (w : World) : Calls Tryz.prog 63 #[.int .i64 x] w fun e w' => e = .returned (.int .i64 x) ∧ w = w' := by
  go_enter Tryz.func63, Tryz.ntmps63
  go_wp2
  go_ret
  exact ⟨rfl, rfl⟩

/-- Both trees, or none. -/
def LaidOut (L : List Nd) (w : World) (e : Ending) (w' : World) : Prop :=
  match fromN L with
  | .error _ => e = .returned (.tuple #[.pointer none, .pointer none, .bool true]) ∧ Ext w w'
  | .ok M => ∃ bt br, e = .returned (.tuple #[.pointer (some ⟨bt, 0, none⟩), .pointer (some ⟨br, 0, none⟩), .bool true]) ∧ TreeAt (fun k => w.heap.size ≤ k ∧ k < w'.heap.size ∧ k ≠ br) w' bt M L.length ∧ RT w' br (nds M) ∧ w.heap.size ≤ br ∧ Ext w w'

theorem laid10_any (L : List Nd) (a : Option Addr) (c : Nat) (w : World) (hT : Tabs w) (hL : NdsAt w.heap.size w a L) (hf : ∀ n ∈ L, Fit n) (hl : L.length * 168 ≤ 140737488355328) :
    Calls Tryz.prog 17 #[.slice a L.length c] w (LaidOut L w) := by
  have hsz := hT.size
  have C0 := Lib.hid (own10_any L a c w hL hf hl)
  have HL := Lib.hid hL
  have HF := Lib.hid hf
  have HT := Lib.hid hT
  clear hL hf hT
  go_enter Tryz.func17, Tryz.ntmps17
  go_wp2_with fail
  refine C0.out.mono ?_
  rintro e W0 ⟨v, rfl, hown, hE0⟩
  obtain ⟨oa, oc, rfl, hOL⟩ := hown.nds
  have hE0 : Ext w W0 := hE0
  have C1 := Lib.hid (from_any L oa oc W0 (HT.out.below hE0 hsz) hOL HF.out (by omega))
  have HE0 := Lib.hid hE0
  clear hown hOL hE0 C0
  go_wp2_with fail
  refine C1.out.mono ?_
  intro e W1 hout
  unfold FromOut at hout
  cases hfr : fromN L with
  | error x =>
    obtain ⟨i, x⟩ := x
    rw [hfr] at hout
    obtain ⟨rfl, hE1⟩ := hout
    have hE1 : Ext W0 W1 := hE1
    have hEw1 := HE0.out.trans hE1
    have C2 := Lib.hid (rfrom_any L a c W1 (HT.out.below hEw1 hsz) (HL.out.ext hEw1) HF.out hl)
    have HE1 := Lib.hid hEw1
    have CN := Lib.hid fun W => no10_any x W
    clear C1 hE1 hEw1
    go_wp2_with fail
    refine C2.out.mono ?_
    intro e W2 hout
    unfold RFromOut at hout
    rw [hfr] at hout
    obtain ⟨rfl, hE2⟩ := hout
    have hx1 : (x != x) = false := by simp
    have hfin : LaidOut L w (.returned (.tuple #[.pointer none, .pointer none, .bool true])) W2 := by
      unfold LaidOut
      rw [hfr]
      exact ⟨rfl, HE1.out.trans hE2⟩
    have HFIN := Lib.hid hfin
    have CN2 := Lib.hid (CN.out W2)
    clear C2 hE2 hfr hfin CN
    go_wp2_with fail
    refine CN2.out.mono ?_
    rintro e W3 ⟨rfl, rfl⟩
    clear CN2
    go_wp2
    go_ret3
    exact HFIN.out
  | ok M =>
    rw [hfr] at hout
    obtain ⟨bt, rfl, hT1, hE1⟩ := hout
    have hE1 : Ext W0 W1 := hE1
    have hEw1 := HE0.out.trans hE1
    have C2 := Lib.hid (rfrom_any L a c W1 (HT.out.below hEw1 hsz) (HL.out.ext hEw1) HF.out hl)
    have HE1 := Lib.hid hEw1
    have HT1 := Lib.hid hT1
    have CN := Lib.hid fun W => no10_any 0 W
    have hz0 := HE0.out.size
    clear C1 hE1 hEw1 hT1
    go_wp2_with fail
    refine C2.out.mono ?_
    intro e W2 hout
    unfold RFromOut at hout
    rw [hfr] at hout
    obtain ⟨br, rfl, hbr, hR, hE2⟩ := hout
    have hE2 : Ext W1 W2 := hE2
    have hz2 := hE2.size
    have hfin : LaidOut L w (.returned (.tuple #[.pointer (some ⟨bt, 0, none⟩), .pointer (some ⟨br, 0, none⟩), .bool true])) W2 := by
      unfold LaidOut
      rw [hfr]
      refine ⟨bt, br, rfl, ?_, hR, by have := HE1.out.size; omega, HE1.out.trans hE2⟩
      exact HT1.out.keep (fun k hk => hE2.block k hk.2) (fun k hk => ⟨by have := hk.1; omega, by have := hk.2; omega, by have := hk.2; omega⟩) (fun k hk => hk.2.1) (Nat.le_refl _)
    have HFIN := Lib.hid hfin
    have CN2 := Lib.hid (CN.out W2)
    clear C2 hE2 hfr hfin CN hR
    go_wp2_with fail
    refine CN2.out.mono ?_
    rintro e W3 ⟨rfl, rfl⟩
    clear CN2
    go_wp2
    go_ret3
    exact HFIN.out

theorem sameTexts_self (L : List ByteArray) (a b : Option Addr) (c d : Nat) (w : World) (hA : StrsAt w.heap.size w a L) (hB : StrsAt w.heap.size w b L) (hl : L.length ≤ 9223372036854775807) :
    Calls Tryz.prog 29 #[.slice a L.length c, .slice b L.length d] w fun e w' => e = .returned (.bool true) ∧ Ext w w' := by
  have HA := Lib.hid hA
  have HB := Lib.hid hB
  clear hA hB
  go_enter Tryz.func29, Tryz.ntmps29
  go_wp2
  go_loopw [5] (fun i wr => ∃ k : Nat, k ≤ L.length ∧ i = .int .i64 k ∧ Ext w wr) (fun i _ => L.length - (intOf i).toNat)
  case atStart => exact ⟨0, Nat.zero_le _, rfl, Ext.refl _⟩
  case round =>
    obtain ⟨k, hk, rfl, hE⟩ := hrel
    by_cases hlt : k < L.length
    · obtain ⟨b1, o1, rfl, hb1, hc1⟩ := HA.out k L[k] (List.getElem?_eq_getElem hlt)
      obtain ⟨b2, o2, rfl, hb2, hc2⟩ := HB.out k L[k] (List.getElem?_eq_getElem hlt)
      generalize L[k] = n at *
      have c1 := (hE.cell (p := ⟨b1, o1 + k, none⟩) hb1).trans hc1
      have c2 := (hE.cell (p := ⟨b2, o2 + k, none⟩) hb2).trans hc2
      have HE := Lib.hid hE
      clear hE hc1 hc2
      go_wp2
      go_quiet (fail)
      go_wp2
      go_roundw
      case rel => exact ⟨k + 1, by omega, by go_num, HE.out.trans' (below_drewN (Below.refl _ _) _)⟩
      case measure => simp [intOf]; omega
    · obtain rfl : k = L.length := by omega
      have HE := Lib.hid hE
      clear hE
      go_wp2
      go_ret
      exact ⟨rfl, HE.out⟩
end Go.Proofs.YtamolbegmkngdaaGreatDoor
namespace Go.Proofs.YtamolbegmkngdaaGreatDoor
open Go.RowKit
set_option maxHeartbeats 2000000
set_option maxRecDepth 100000

theorem rnew_any (p : ByteArray) (data : List UInt8) (acl : List Ac) (x y z : Int) (da aa : Option Addr) (dc ac : Nat) (w : World) (hf : Fit (newN p data acl x y z)) (hD : Cells w.heap.size w da (data.map u8v)) (hA : Cells w.heap.size w aa (acCs acl)) :
    Calls Tryz.prog 141 #[.string p, .slice da data.length dc, .slice aa acl.length ac, .int .i64 x, .int .i64 y, .int .i64 z] w (CloneNew (newN p data acl x y z) w) := by
  obtain ⟨i0, hi, hz0, hz1, hz2⟩ := info_parts infoU8
  obtain ⟨i1, hi', hz0', hz1', hz2'⟩ := info_parts infoAc
  have hfd : data.length ≤ 140737488355328 := hf.data
  have hfa : acl.length * 40 ≤ 140737488355328 := hf.acl
  obtain ⟨W1, hW1⟩ : ∃ W1, W1 = w.alloc (.cells zeroNd 47) := ⟨_, rfl⟩
  have hE1 : Ext w W1 := by rw [hW1]; exact Ext.alloc _ _
  have hzW : W1.heap.size = w.heap.size + 1 := by rw [hW1]; simp
  have hr1 : W1.heap[w.heap.size]? = some (.cells zeroNd 47 (0, 0)) := by rw [hW1]; exact heap_alloc_new w _
  have hown1 := ownsRow_empty W1 5 1
  rw [hzW] at hown1
  have hEa : Ext w (W1.alloc (.cells #[] 5)) := hE1.trans (Ext.alloc _ _)
  have hsrc1 : Src Tryz.prog 1 42 (.slice da data.length dc) data.length (data.map u8v) (W1.alloc (.cells #[] 5)) := (hD.below hEa).src Tryz.underlying42 _ _ (by simp) (one_u8 _)
  have HEa := Lib.hid hEa
  have HW1 := Lib.hid hW1
  have HR1 := Lib.hid hr1
  have HA := Lib.hid hA
  rw [hW1] at hown1 hsrc1
  unfold zeroNd at hown1 hsrc1 HW1
  clear hW1 hr1 hEa hD hA hE1
  go_enter Tryz.func141, Tryz.ntmps141
  go_wp2_with (at_builtin; refine wpList_append_src _ rfl (.tmp 14) (.tmp 15) 42 42 rfl (w.heap.size + 1) 5 i0 (.int .u8 0) 1 1 Tryz.underlying42 hi hz0 hz1 hz2 rfl (by decide) _ 0 _ rfl hown1 _ _ _ rfl hsrc1 ?c1 ?c2 ?c3 ?_)
  case c1 => simp only [maxLen]; omega
  case c2 => omega
  case c3 => simp
  intro v1 w4 ho1 hg1 _ _
  rw [← HW1.out] at hg1
  have hz4 := hg1.size
  simp only [World.size_alloc] at hz4
  have hE4 : Ext w w4 := HEa.out.trans' ⟨hg1.os, hg1.tape, hg1.output, hg1.size, fun k hk => hg1.block k (by simp; omega) (fun e => by have h : k = w.heap.size + 1 := Option.some.inj e; omega)⟩
  have hr4 : w4.heap[w.heap.size]? = some (.cells zeroNd 47 (0, 0)) := (hg1.block w.heap.size (by simp; omega) (fun e => by have h : w.heap.size = w.heap.size + 1 := Option.some.inj e; omega)).trans ((heap_alloc_old W1 _ (by omega)).trans HR1.out)
  obtain ⟨va, vc, rfl, hD4⟩ := ownsRow_cells ho1
  have hvb : ∀ b off, va = some ⟨b, off, none⟩ → w.heap.size + 1 ≤ b := by
    intro b off h
    subst h
    rcases ho1.2 with ⟨h, _⟩ | ⟨g, cap, cur, h, k1, _⟩
    · cases h
    · simp only [Value.slice.injEq, Option.some.injEq, Addr.mk.injEq] at h; omega
  have hown2 := ownsRow_empty w4 166 3
  have hEb : Ext w (w4.alloc (.cells #[] 166)) := hE4.trans (Ext.alloc _ _)
  have hsrc2 : Src Tryz.prog 3 43 (.slice aa acl.length ac) acl.length (acCs acl) (w4.alloc (.cells #[] 166)) := (HA.out.below hEb).src Tryz.underlying43 _ _ (acCs_length _) (one_ac _)
  have HD4 := Lib.hid hD4
  have HVB := Lib.hid hvb
  have HR4 := Lib.hid hr4
  have HEb := Lib.hid hEb
  clear ho1 hg1 hown1 hsrc1 hE4 hr4 hEb HW1 HR1 HEa HA hD4 hvb
  go_wp2_with (at_builtin; refine wpList_append_src _ rfl (.tmp 17) (.tmp 18) 43 43 rfl w4.heap.size 166 i1 (.agg #[.int .i32 0, .string ⟨#[]⟩, .string ⟨#[]⟩]) 3 40 Tryz.underlying43 hi' hz0' hz1' hz2' rfl (by decide) _ 0 _ rfl hown2 _ _ _ rfl hsrc2 ?d1 ?d2 ?d3 ?_)
  case d1 => simp only [maxLen]; omega
  case d2 => omega
  case d3 => simp
  intro v2 w6 ho2 hg2 _ _
  have hz6 := hg2.size
  simp only [World.size_alloc] at hz6
  have hE6 : Ext w w6 := HEb.out.trans' ⟨hg2.os, hg2.tape, hg2.output, hg2.size, fun k hk => hg2.block k (by simp; omega) (fun e => by have h : k = w4.heap.size := Option.some.inj e; omega)⟩
  have hr6 : w6.heap[w.heap.size]? = some (.cells zeroNd 47 (0, 0)) := (hg2.block w.heap.size (by simp; omega) (fun e => by have h : w.heap.size = w4.heap.size := Option.some.inj e; omega)).trans ((heap_alloc_old w4 _ (by omega)).trans HR4.out)
  have hD6 : ∀ j u, (data.map u8v)[j]? = some u → ∃ b off, va = some ⟨b, off, none⟩ ∧ (w.heap.size + 1 ≤ b ∧ b < w6.heap.size) ∧ w6.cell? ⟨b, off + j, none⟩ = some u := fun j u hj => by
    obtain ⟨b, off, h1, h2, h3⟩ := HD4.out j u hj
    have h4 := HVB.out b off h1
    exact ⟨b, off, h1, ⟨h4, by omega⟩, (World.cell?_of_block ((hg2.block b (by simp; omega) (fun e => by have h : b = w4.heap.size := Option.some.inj e; omega)).trans (heap_alloc_old w4 _ h2))).trans h3⟩
  obtain ⟨vb, vd, rfl, hA6⟩ := ownsRow_cells ho2
  have hvb2 : ∀ b off, vb = some ⟨b, off, none⟩ → w4.heap.size ≤ b := by
    intro b off h
    subst h
    rcases ho2.2 with ⟨h, _⟩ | ⟨g, cap, cur, h, k1, _⟩
    · cases h
    · simp only [Value.slice.injEq, Option.some.injEq, Addr.mk.injEq] at h; omega
  obtain ⟨cs, hcs⟩ : ∃ cs, cs = ndC (newN p data acl x y z) (.slice va data.length vc) (.slice vb acl.length vd) := ⟨_, rfl⟩
  have hr7 := setRow_heap w6 w.heap.size _ cs 47 (0, 0) hr6
  have hs7 : (w6.setRow w.heap.size cs).heap.size = w6.heap.size := by simp [World.setRow]
  have hE7 : Ext w (w6.setRow w.heap.size cs) := hE6.trans' ⟨rfl, rfl, rfl, by rw [hs7]; exact Nat.le_refl _, fun k hk => setRow_other _ _ _ _ (by omega)⟩
  have cD : CellsS (fun k => w.heap.size ≤ k ∧ k < (w6.setRow w.heap.size cs).heap.size) (w6.setRow w.heap.size cs) va (data.map u8v) := fun j u hj => by
    obtain ⟨b, off, h1, h2, h3⟩ := hD6 j u hj
    exact ⟨b, off, h1, ⟨by omega, by omega⟩, (World.cell?_of_block (setRow_other _ _ _ _ (show b ≠ w.heap.size by omega))).trans h3⟩
  have cA : CellsS (fun k => w.heap.size ≤ k ∧ k < (w6.setRow w.heap.size cs).heap.size) (w6.setRow w.heap.size cs) vb (acCs acl) := fun j u hj => by
    obtain ⟨b, off, h1, h2, h3⟩ := hA6 j u hj
    have h4 := hvb2 b off h1
    exact ⟨b, off, h1, ⟨by omega, by omega⟩, (World.cell?_of_block (setRow_other _ _ _ _ (show b ≠ w.heap.size by omega))).trans h3⟩
  have hfin : CloneNew (newN p data acl x y z) w (.returned (.agg cs)) (w6.setRow w.heap.size cs) := ⟨_, rfl, ⟨va, vc, vb, vd, by rw [hcs]; rfl, cD, cA⟩, hE7⟩
  have HFIN := Lib.hid hfin
  have HR6 := Lib.hid hr6
  have HR7 := Lib.hid hr7
  have hone : cs.all (·.oneCell') = true := by rw [hcs]; exact cells_node (newN p data acl x y z) va vb _ _ vc vd
  have hsz17 : (Tryz.prog.info? 47).map (·.size) = some cs.size := by rw [hcs]; exact sizeNd
  have HONE := Lib.hid hone
  have HSZ := Lib.hid hsz17
  have HCS := Lib.hid hcs
  unfold ndC newN at HCS
  unfold zeroNd at HR6
  clear hfin hr6 hr7 hD6 hA6 hvb2 hE6 hE7 cD cA ho2 hg2 hown2 hsrc2 hone hsz17 hcs HD4 HVB HR4 HEb
  go_wp2_with (rw [← HCS.out]; refine wpList_store_row rfl 47 (.tmp 12) (.tmp 26) rfl w.heap.size _ rfl rfl 47 _ HR6.out HSZ.out (by rw [HCS.out]; rfl) HONE.out ?_)
  refine bodyPost_ret (v := .agg cs) ?_ rfl HFIN.out
  exact results_cell_row (p := 12) (ty := 47) rfl _ _ w.heap.size 47 cs (0, 0) _ rfl HR7.out Tryz.underlying47 rfl HSZ.out

theorem rroot_any (w : World) : Calls Tryz.prog 83 #[] w (CloneNew rootN w) := by
  obtain ⟨W1, hW1⟩ : ∃ W1, W1 = w.alloc (.cells zeroNd 47) := ⟨_, rfl⟩
  obtain ⟨W2, hW2⟩ : ∃ W2, W2 = W1.alloc (.cells #[.int .i32 31, .string ⟨#[119, 111, 114, 108, 100]⟩, .string ⟨#[97, 110, 121, 111, 110, 101]⟩] 166) := ⟨_, rfl⟩
  have hE1 : Ext w W1 := by rw [hW1]; exact Ext.alloc _ _
  have hE2 : Ext W1 W2 := by rw [hW2]; exact Ext.alloc _ _
  have hz1 : W1.heap.size = w.heap.size + 1 := by rw [hW1]; simp
  have hz2 : W2.heap.size = w.heap.size + 1 + 1 := by rw [hW2]; simp [hz1]
  have hr2 : W2.heap[w.heap.size]? = some (.cells zeroNd 47 (0, 0)) := (hE2.block _ (by omega)).trans (by rw [hW1]; exact heap_alloc_new w _)
  have hA : Cells W2.heap.size W2 (some ⟨w.heap.size + 1, 0, none⟩) (acCs [rootAc]) := fun j u hj => by
    refine ⟨_, 0, rfl, by omega, ?_⟩
    have h := heap_alloc_new W1 (.cells #[.int .i32 31, .string ⟨#[119, 111, 114, 108, 100]⟩, .string ⟨#[97, 110, 121, 111, 110, 101]⟩] 166)
    rw [← hW2, hz1] at h
    rw [Nat.zero_add, cell_of_row _ _ _ _ _ _ h]
    simpa [acCs, acC, rootAc] using hj
  have C1 := rnew_any rootP [] [rootAc] 0 0 0 none (some ⟨w.heap.size + 1, 0, none⟩) 0 1 W2 (right_fit rootN_right).1 (Cells.nil _ _ _) hA
  have hW : (w.alloc (.cells zeroNd 47)).alloc (.cells #[.int .i32 31, .string ⟨#[119, 111, 114, 108, 100]⟩, .string ⟨#[97, 110, 121, 111, 110, 101]⟩] 166) = W2 := by rw [hW2, hW1]
  have HW := Lib.hid hW
  have HR2 := Lib.hid hr2
  have HE2 := Lib.hid (hE1.trans hE2)
  have C1 := Lib.hid C1
  unfold zeroNd at HW HR2
  unfold rootP at C1
  clear hW hA hr2 hE1 hE2 hW2 hW1
  go_enter Tryz.func83, Tryz.ntmps83
  go_wp2_with fail
  rw [HW.out]
  refine C1.out.mono ?_
  rintro e w3 ⟨v, rfl, hN, hE3⟩
  have hE3 : Ext W2 w3 := hE3
  obtain ⟨va, vc, vb, vd, rfl, h1, h2⟩ := hN
  have hz3 := hE3.size
  have hr3 := (hE3.block w.heap.size (by omega)).trans HR2.out
  obtain ⟨cs, hcs⟩ : ∃ cs, cs = ndC rootN (.slice va 0 vc) (.slice vb 1 vd) := ⟨_, rfl⟩
  have hr4 := setRow_heap w3 w.heap.size _ cs 47 (0, 0) hr3
  have hs4 : (w3.setRow w.heap.size cs).heap.size = w3.heap.size := by simp [World.setRow]
  have hE4 : Ext w (w3.setRow w.heap.size cs) := (HE2.out.trans hE3).trans' ⟨rfl, rfl, rfl, by rw [hs4]; exact Nat.le_refl _, fun k hk => setRow_other _ _ _ _ (by omega)⟩
  have hk : ∀ (b o : Nat) u, (W2.heap.size ≤ b ∧ b < w3.heap.size) → w3.cell? ⟨b, o, none⟩ = some u → (w3.setRow w.heap.size cs).cell? ⟨b, o, none⟩ = some u := fun b o u hb hu =>
    (World.cell?_of_block (setRow_other _ _ _ _ (show b ≠ w.heap.size by have := hb.1; omega))).trans hu
  have hfin : CloneNew rootN w (.returned (.agg cs)) (w3.setRow w.heap.size cs) := ⟨_, rfl, ⟨va, vc, vb, vd, by rw [hcs]; rfl, h1.imp (fun b hb => ⟨by omega, by omega⟩) hk, h2.imp (fun b hb => ⟨by omega, by omega⟩) hk⟩, hE4⟩
  have HFIN := Lib.hid hfin
  have HR3 := Lib.hid hr3
  have HR4 := Lib.hid hr4
  have HONE := Lib.hid (show cs.all (·.oneCell') = true by rw [hcs]; exact cells_node rootN va vb 0 1 vc vd)
  have HSZ := Lib.hid (show (Tryz.prog.info? 47).map (·.size) = some cs.size by rw [hcs]; exact sizeNd)
  have HS17 := Lib.hid (show cs.size = 17 by rw [hcs]; rfl)
  have hcs2 : ndC (newN ⟨#[47]⟩ [] [rootAc] 0 0 0) (.slice va (newN ⟨#[47]⟩ [] [rootAc] 0 0 0).data.length vc) (.slice vb (newN ⟨#[47]⟩ [] [rootAc] 0 0 0).acl.length vd) = cs := by rw [hcs]; rfl
  rw [hcs2]
  clear hfin hr3 hr4 hE4 hE3 h1 h2 C1 hk hcs hcs2
  go_wp2_with (refine wpList_store_row rfl 47 (.tmp 0) (.tmp 4) rfl w.heap.size _ rfl rfl 47 _ HR3.out HSZ.out (by rw [HS17.out]; rfl) HONE.out ?_)
  refine bodyPost_ret (v := .agg cs) ?_ rfl HFIN.out
  exact results_cell_row (p := 0) (ty := 47) rfl _ _ w.heap.size 47 cs (0, 0) _ rfl HR4.out Tryz.underlying47 rfl HSZ.out
end Go.Proofs.YtamolbegmkngdaaGreatDoor
namespace Go.Proofs.YtamolbegmkngdaaGreatDoor
open Go.RowKit
inductive Sp where
  | val (v : Value)
  | prop (p : Value → World → Prop)
def Sp.ok : Sp → Value → World → Prop
  | .val x, v, _ => v = x
  | .prop p, v, w => p v w
def spP (l : List Sp) (i : Nat) (v : Value) (w : World) : Prop := match l[i]? with
  | some s => s.ok v w
  | none => False
/-- The properties stay. -/
def stayS : List Sp → Prop
  | [] => True
  | .val _ :: r => stayS r
  | .prop p :: r => (∀ v w w', p v w → Ext w w' → p v w') ∧ stayS r
theorem stayS.at : ∀ {l : List Sp}, stayS l → ∀ (i : Nat) (s : Sp), l[i]? = some s → ∀ v w w', s.ok v w → Ext w w' → s.ok v w'
  | [], _, i, s, h, _, _, _, _, _ => by simp at h
  | .val _ :: r, h, 0, s, hs, v, w, w', hv, _ => by simp at hs; subst hs; exact hv
  | .prop p :: r, h, 0, s, hs, v, w, w', hv, hE => by simp at hs; subst hs; exact h.1 v w w' hv hE
  | .val _ :: r, h, i + 1, s, hs, v, w, w', hv, hE => stayS.at (l := r) h i s (by simpa using hs) v w w' hv hE
  | .prop p :: r, h, i + 1, s, hs, v, w, w', hv, hE => stayS.at (l := r) h.2 i s (by simpa using hs) v w w' hv hE
/-- For all values that are as told. -/
def forS : List Sp → World → (List Value → Prop) → Prop
  | [], _, K => K []
  | .val v :: r, w, K => forS r w fun t => K (v :: t)
  | .prop p :: r, w, K => ∀ u, p u w → forS r w fun t => K (u :: t)
theorem forS_all : ∀ (l : List Sp) (w : World) (K : List Value → Prop), forS l w K → ∀ us : List Value, us.length = l.length → (∀ i u, us[i]? = some u → spP l i u w) → K us
  | [], w, K, h, us, hl, _ => by
    obtain rfl := List.eq_nil_of_length_eq_zero (by simpa using hl)
    exact h
  | .val v :: r, w, K, h, [], hl, _ => by simp at hl
  | .prop v :: r, w, K, h, [], hl, _ => by simp at hl
  | .val v :: r, w, K, h, u :: us, hl, hP => by
    have hu : u = v := hP 0 u rfl
    subst hu
    exact forS_all r w _ h us (by simpa using hl) fun i x hx => hP (i + 1) x (by simpa using hx)
  | .prop p :: r, w, K, h, u :: us, hl, hP => by
    have hu : p u w := hP 0 u rfl
    exact forS_all r w _ (h u hu) us (by simpa using hl) fun i x hx => hP (i + 1) x (by simpa using hx)
section
variable {P : Program} {ops : Array Oper} {Q : Exit → Act → World → Prop} {a0 : Act} {w0 : World}
theorem Ahead.pick {Φ : Nat → Value → World → Prop} {o p : Oper} {a : Act} {w : World} (h : Ahead ops Φ o a w) (j : Nat) (d : Tmp) (v : Value) (hp : ops[j]? = some p) (hd : p.dst = some d) (he : ∃ e ∈ o.after.toList, e.on = j ∧ Region.binds .any e = true) (hv : ∀ u, Φ j u w → u = v) : a.eval (.tmp d) = v :=
  hv _ (h.slot j d hp hd he)
/-- An operation whose guard says no. -/
theorem duty_no {Φ : Nat → Value → World → Prop} {i j : Nat} {b : Bool} {o p : Oper} {d : Tmp} (hg : o.guard = some (j, b)) (hp : ops[j]? = some p) (hd : p.dst = some d) (hin : d < a0.tmps.size) (he : ∃ e ∈ o.after.toList, e.on = j ∧ Region.binds .any e = true)
    (hv : ∀ v w, Φ j v w → v = .bool (!b)) (h : ∀ w, Φ i undef w) : Duty P ops Q Φ a0 w0 i o := by
  intro a w hE hF hA
  obtain ⟨e, hem, rfl, heb⟩ := he
  have hval := hv _ _ (hA e hem heb p hp)
  have : Region.wanted o (yielded ops a.tmps) = false := by
    unfold Region.wanted
    rw [hg]
    have hlt : d < a.tmps.size := by rw [hF.2.1]; exact hin
    unfold valOf at hval
    rw [hd] at hval
    simp only [Array.getD_eq_getD_getElem?, Array.getElem?_eq_getElem hlt, Option.getD_some] at hval
    cases b <;> simp [yielded, hp, hd, Array.getElem?_eq_getElem hlt, hval]
  rw [this]
  simp only [Bool.false_eq_true, if_false]
  exact h w
theorem region_sp (m : Nat) (sp : List Sp) (hst : stayS sp) (hlen : sp.length = ops.toList.length) (hchk : (dstsOk ops && aheadB ops && (ops.toList.all fun o => o.dst.any fun d => decide (d < m))) = true) (hsz : a0.tmps.size = m)
    (hd : Duties P ops Q (spP sp) a0 w0 0 ops.toList)
    (hend : ∀ w, Ext w0 w → forS sp w fun us => Q .normal (filled ops.toList us a0) w) : RegionP P ops Q a0 w0 := by
  have hall := hchk
  simp only [Bool.and_eq_true] at hall
  refine region_rel_e m Ext Ext.refl (fun _ _ _ => Ext.trans) Ext.drew (spP sp) (fun i v w w' h hE => ?_) (fun i v w h ho => ?_) ?_ hsz (duties_rel _ _ hd) fun us w hE hl hP => ?_
  · unfold spP at h ⊢
    cases hs : sp[i]? with
    | none => rw [hs] at h; exact h.elim
    | some s => rw [hs] at h; exact hst.at i s hs v w w' h hE
  · exfalso
    cases hoi : ops[i]? with
    | none => rw [hoi] at ho; cases ho
    | some o =>
      rw [hoi] at ho
      have := List.all_eq_true.1 hall.2 o (List.mem_of_getElem? (i := i) (by simpa using hoi))
      cases hd : o.dst with
      | none => rw [hd] at this; cases this
      | some d => simp [hd] at ho
  · simp only [Bool.and_eq_true]
    refine ⟨hall.1, List.all_eq_true.2 fun o ho => ?_⟩
    have := List.all_eq_true.1 hall.2 o ho
    cases hd : o.dst with
    | none => rfl
    | some d => rw [hd] at this; simpa using this
  · exact forS_all sp w _ (hend w hE) us (by rw [hl, hlen]) hP
/-- The same, but for the last operation, which all others are ahead of: it may turn what it likes. -/
theorem region_sp_last (m : Nat) (sp : List Sp) (hst : stayS sp) (k : Nat) (ol : Oper) (hk : ops[k]? = some ol) (hks : ops.size = k + 1) (hlen : sp.length = k) (hg : ol.guard = none) (hdn : ol.dst = none)
    (hchk : (dstsOk ops && aheadB ops && coverOk ops && ((ops.toList.take (ops.size - 1)).all fun o => o.dst.any fun d => decide (d < m))) = true) (hsz : a0.tmps.size = m)
    (hd : Duties P ops Q (spP sp) a0 w0 0 (ops.toList.take k))
    (hlast : ∀ w, Ext w0 w → forS sp w fun us => ol.wp P (filled (ops.toList.take k) us a0) w (fun a' w' => Q .normal a' w') Q) : RegionP P ops Q a0 w0 := by
  refine region_last_e m (spP sp) (fun i v w w' h hE => ?_) hchk hsz k ol hk hks hg hdn hd fun us w hE hl hP => ?_
  · unfold spP at h ⊢
    cases hs : sp[i]? with
    | none => rw [hs] at h; exact h.elim
    | some s => rw [hs] at h; exact hst.at i s hs v w w' h hE
  · exact forS_all sp w _ (hlast w hE) us (by rw [hl, List.length_take, Array.length_toList, hks, hlen]; omega) hP
end
end Go.Proofs.YtamolbegmkngdaaGreatDoor
namespace Go.Proofs.YtamolbegmkngdaaGreatDoor
open Go.RowKit Go.Sort
set_option maxHeartbeats 4000000
set_option maxRecDepth 100000
attribute [local go_sem] Oper.semAt_some

def usedV (M : List (Key × Nd)) (n : Nd) : Value := .agg #[.int .i64 (undK M n.path).length, .int .i64 (bytesK M (undK M n.path))]
def usedP (M : List (Key × Nd)) (L : List Nd) : List (Key × Value) := (L.filter (·.has)).map fun n => (keyN n, usedV M n)
/-- What is used at the quotas of a tree. -/
def usedL (M : List (Key × Nd)) : List (Key × Value) := usedP M (nds M)
theorem usedP_snoc (M : List (Key × Nd)) (L : List Nd) (n : Nd) : usedP M (L ++ [n]) = usedP M L ++ if n.has = true then [(keyN n, usedV M n)] else [] := by
  unfold usedP
  rw [List.filter_append, List.map_append]
  congr 1
  by_cases h : n.has = true
  · rw [if_pos h, List.filter_cons_of_pos h]; rfl
  · rw [if_neg h, List.filter_cons_of_neg h]; rfl
theorem usedP_length (M : List (Key × Nd)) (L : List Nd) : (usedP M L).length ≤ L.length := by
  unfold usedP
  rw [List.length_map]
  exact List.length_filter_le _ _
theorem mins_last {α : Type} {x : Key × α} : ∀ {m : List (Key × α)}, (∀ y ∈ m, bytesBefore y.1 x.1 = true) → mins x m = m ++ [x]
  | [], _ => rfl
  | y :: r, h => by
    have h1 := h y (List.mem_cons_self ..)
    have h2 : ¬ bytesBefore x.1 y.1 = true := fun h2 => before_asymm h1 h2
    show (if bytesBefore x.1 y.1 = true then x :: y :: r else y :: mins x r) = _
    rw [if_neg h2, mins_last fun z hz => h z (List.mem_cons_of_mem _ hz)]
    rfl
theorem mput_last {α : Type} {m : List (Key × α)} {k : Key} {v : α} (h : ∀ y ∈ m, bytesBefore y.1 k = true) : mput m k v = m ++ [(k, v)] := by
  have e : mdel m k = m := List.filter_eq_self.2 fun y hy => by
    have h1 := h y hy
    simp only [Bool.not_eq_true', beq_eq_false_iff_ne, ne_eq]
    intro e
    rw [e] at h1
    exact before_asymm h1 h1
  unfold mput
  rw [e]
  exact mins_last h

/-- A book in memory: its block, its map. -/
def BookAt (w : World) (bb bm : Nat) (m : List (Key × Value)) : Prop := w.heap[bb]? = some (.cells #[.map (some bm)] 151 (0, 0)) ∧ SMap Tryz.prog 9 w bm m
theorem BookAt.ext {w w' : World} {bb bm : Nat} {m : List (Key × Value)} (h : BookAt w bb bm m) (hE : Ext w w') : BookAt w' bb bm m :=
  ⟨(hE.block bb (Array.getElem?_eq_some_iff.1 h.1).1).trans h.1, h.2.keep (hE.block bm h.2.lt)⟩
def BegOut (M : List (Key × Nd)) (w : World) (e : Ending) (w' : World) : Prop := ∃ bb bm, e = .returned (.pointer (some ⟨bb, 0, none⟩)) ∧ BookAt w' bb bm (usedL M) ∧ w.heap.size ≤ bb ∧ w.heap.size ≤ bm ∧ Ext w w'

/-- What All hands back, whatever the tree. -/
def AllsM (pv : Value) (M : List (Key × Nd)) (w : World) (ga : Nat) : Prop := ∀ W, Ext w W → ga < W.heap.size → Calls Tryz.prog 61 #[pv] W fun e W1 => ∃ bw btb, e = .returned (.func (.func 159) #[] #[.pointer (some ⟨bw, 0, none⟩), .pointer (some ⟨btb, 0, none⟩)]) ∧
  Tells Fence.wide 5 Tryz.prog 159 #[.pointer (some ⟨bw, 0, none⟩), .pointer (some ⟨btb, 0, none⟩)] (fun x : Value × Nd => #[x.1]) (GS fun _ k => k ≠ ga) (KeepS fun _ k => k ≠ ga) (fun _ k => k ≠ ga) (fun xs => xs.map (·.2) = nds M) (fun pre => ∃ rest, pre.map (·.2) ++ rest = nds M) W1 ∧ Ext W W1
theorem AllsM.of_tree {S : Nat → Prop} {w : World} {bt : Nat} {M : List (Key × Nd)} {N : Nat} (hT : TreeAt S w bt M N) (hl : M.length * 168 ≤ 140737488355328) (ga : Nat) (hga : w.heap.size ≤ ga) : AllsM (.pointer (some ⟨bt, 0, none⟩)) M w ga := fun W hE _ => by
  refine (tall_any bt W).mono ?_
  rintro e W1 ⟨bw, btb, rfl, hcw, hct, hE1⟩
  have hT1 := (hT.ext hE).ext hE1
  have hok := hT.ok
  have hs1 : ∀ k, S k → k ≠ ga := fun k hk => by have := hT.bound k hk; omega
  have TT := told_tells (fun _ k => k ≠ ga) S W1 bt M N hT1 hs1 bw btb 122 #[.pointer (some ⟨bt, 0, none⟩)] #[] hcw hct (enters_of Tryz.func122 (by kernel_rfl) rfl) (M.map (·.1))
    (fun W hW => by simpa using tsorted_any S W bt M N (hT1.ext hW) (by omega)) (by simpa using hl) hok.keys_le
  rw [nodesOf_vals hok.sorted] at TT
  exact ⟨bw, btb, rfl, TT, hE1⟩

structure BegI (M : List (Key × Nd)) (pv : Value) (b1 bm bb b3 : Nat) (w W7 : World) (pre : List (Value × Nd)) (W : World) : Prop where
  map : SMap Tryz.prog 9 W bm (usedP M (pre.map (·.2)))
  c1 : W.heap[b1]? = some (.cells #[pv] 23 (0, 0))
  cb : W.heap[bb]? = some (.cells #[.map (some bm)] 151 (0, 0))
  c3 : W.heap[b3]? = some (.cells #[.pointer (some ⟨bb, 0, none⟩)] 57 (0, 0))
  size : W7.heap.size ≤ W.heap.size
  keep : Below w.heap.size w W
theorem BegI.turn {M : List (Key × Nd)} {pv : Value} {b1 bm bb b3 : Nat} {w W7 : World} {pre : List (Value × Nd)} {X Y : World} (h : BegI M pv b1 bm bb b3 w W7 pre X) (hT : Turn W7.heap.size X Y) (hw : w.heap.size ≤ W7.heap.size) : BegI M pv b1 bm bb b3 w W7 pre Y := by
  obtain ⟨h0, h1, h2, h3, h4, h5⟩ := h
  refine ⟨?_, hT.cells h1, hT.cells h2, hT.cells h3, Nat.le_trans h4 hT.size, h5.trans (hT.below hw h5.size)⟩
  obtain ⟨es, c, hb⟩ := h0.isMap
  exact h0.keep ((hT.same bm _ hb (.inr rfl)).trans hb.symm)
theorem BegI.ext {M : List (Key × Nd)} {pv : Value} {b1 bm bb b3 : Nat} {w W7 : World} {pre : List (Value × Nd)} {X Y : World} (h : BegI M pv b1 bm bb b3 w W7 pre X) (hE : Ext X Y) (hw : w.heap.size ≤ W7.heap.size) : BegI M pv b1 bm bb b3 w W7 pre Y := h.turn (Turn.of_ext hE) hw

theorem qbegin_any (pv : Value) (hpv : ∃ po, pv = .pointer po) (M : List (Key × Nd)) (w : World) (hM : MOk M) (hA : ∀ ga, w.heap.size ≤ ga → AllsM pv M w ga) (hWe : WeighsM pv M w) (hl : M.length * 168 ≤ 140737488355328) :
    Calls Tryz.prog 28 #[pv] w (BegOut M w) := by
  obtain ⟨po, rfl⟩ := hpv
  obtain ⟨Wa, hWa⟩ : ∃ Wa, Wa = w.alloc (.cells #[.pointer po] 23) := ⟨_, rfl⟩
  obtain ⟨Wb, hWb⟩ : ∃ Wb, Wb = Wa.alloc (.map #[] 0) := ⟨_, rfl⟩
  obtain ⟨Wc, hWc⟩ : ∃ Wc, Wc = Wb.alloc (.cells #[.map (some (w.heap.size + 1))] 151) := ⟨_, rfl⟩
  obtain ⟨Wd, hWd⟩ : ∃ Wd, Wd = Wc.alloc (.cells #[.pointer (some ⟨w.heap.size + 1 + 1, 0, none⟩)] 57) := ⟨_, rfl⟩
  have hEa : Ext w Wa := by rw [hWa]; exact Ext.alloc _ _
  have hEb : Ext Wa Wb := by rw [hWb]; exact Ext.alloc _ _
  have hEc : Ext Wb Wc := by rw [hWc]; exact Ext.alloc _ _
  have hEd : Ext Wc Wd := by rw [hWd]; exact Ext.alloc _ _
  have hza : Wa.heap.size = w.heap.size + 1 := by rw [hWa]; simp
  have hzb : Wb.heap.size = w.heap.size + 2 := by rw [hWb]; simp [hza]
  have hzc : Wc.heap.size = w.heap.size + 3 := by rw [hWc]; simp [hzb]
  have hzd : Wd.heap.size = w.heap.size + 4 := by rw [hWd]; simp [hzc]
  have g1 : Wd.heap[w.heap.size]? = some (.cells #[.pointer po] 23 (0, 0)) := ((hEb.trans (hEc.trans hEd)).block w.heap.size (by omega)).trans (by rw [hWa]; exact heap_alloc_new w _)
  have gm : SMap Tryz.prog 9 Wd (w.heap.size + 1) [] := by
    have : SMap Tryz.prog 9 Wb (w.heap.size + 1) [] := by rw [hWb, ← hza]; exact SMap.made _ _ Wa
    exact this.keep ((hEc.trans hEd).block (w.heap.size + 1) (by omega))
  have gb : Wd.heap[w.heap.size + 2]? = some (.cells #[.map (some (w.heap.size + 1))] 151 (0, 0)) := (hEd.block (w.heap.size + 2) (by omega)).trans (by rw [hWc, ← hzb]; exact heap_alloc_new Wb _)
  have g3 : Wd.heap[w.heap.size + 3]? = some (.cells #[.pointer (some ⟨w.heap.size + 1 + 1, 0, none⟩)] 57 (0, 0)) := by rw [hWd, ← hzc]; exact heap_alloc_new Wc _
  have hEw : Ext w Wd := hEa.trans (hEb.trans (hEc.trans hEd))
  have C1 := Lib.hid (hA (w.heap.size + 1) (by omega) Wd hEw (by omega))
  have hWd2 : ((((w.alloc (.cells #[.pointer po] 23)).alloc (.map #[] 0)).alloc (.cells #[.map (some (w.heap.size + 1))] 151)).alloc (.cells #[.pointer (some ⟨w.heap.size + 1 + 1, 0, none⟩)] 57)) = Wd := by rw [hWd, hWc, hWb, hWa]
  have HWD := Lib.hid hWd2
  have HM := Lib.hid hM
  have HWE := Lib.hid hWe
  have HEW := Lib.hid hEw
  have HI0 := Lib.hid (And.intro g1 (And.intro gm (And.intro gb g3)))
  have q1 : (Wd.alloc (.cells #[] 0)).heap.size = Wd.heap.size + 1 := by simp
  clear hA hWe hM g1 gm gb g3 hEw hEa hEb hEc hEd hWd2 hWa hWb hWc hWd hza hzb hzc q1
  clear Wa Wb Wc
  have hmm := @run_makeMap Tryz.prog
  refine (callsIn_wide (n := 6)).1 (callsIn_of_wp_marks Tryz.func28 rfl trivial ?_)
  simp only [Tryz.ntmps28, List.size_toArray, List.length_cons, List.length_nil, Nat.reduceAdd, Nat.reduceSub, Array.replicate_succ, Array.replicate_zero, List.push_toArray, List.append_toArray, List.nil_append, List.cons_append]
  gi_wp2_with fail
  rw [HWD.out]
  refine ⟨trivial, (callsIn_wide.2 C1.out).mono ?_⟩
  rintro e W1 ⟨bw, btb, rfl, TT, hE1⟩
  have hE1 : Ext Wd W1 := hE1
  obtain ⟨g1, gm, gb, g3⟩ := HI0.out
  have hz1 := hE1.size
  have hEw1 := HEW.out.trans hE1
  have hI0 : BegI M (.pointer po) w.heap.size (w.heap.size + 1) (w.heap.size + 1 + 1) (w.heap.size + 1 + 1 + 1) w W1 [] W1 :=
    ⟨gm.keep (hE1.block _ gm.lt), (hE1.block _ (by omega)).trans g1, (hE1.block _ (by omega)).trans gb, (hE1.block _ (by omega)).trans g3, Nat.le_refl _, hEw1⟩
  have hnn := told_not_nil #[.pointer (some ⟨bw, 0, none⟩), .pointer (some ⟨btb, 0, none⟩)] W1
  have TT := Lib.hid TT
  have HI1 := Lib.hid hI0
  have HE1 := Lib.hid hEw1
  clear hI0 hEw1 g1 gm gb g3 C1 HWD HI0 hmm hE1
  gi_wp2
  refine wpIn_tells_nd (Safe := fun _ k => k ≠ w.heap.size + 1) (by omega) (gf := 159) (lb := #[.pointer (some ⟨bw, 0, none⟩), .pointer (some ⟨btb, 0, none⟩)]) rfl (enters_of Tryz.func159 (by kernel_rfl) rfl) TT.out (show 10 < 26 by decide) (show 4 < 26 by decide) (by decide)
    (BegI M (.pointer po) w.heap.size (w.heap.size + 1) (w.heap.size + 1 + 1) (w.heap.size + 1 + 1 + 1) w W1) (fun _ _ _ => False) (fun _ _ _ _ h => h) ?hI ?hIx HI1.out ?body ?done ?stop
  case hI =>
    intro pre X Y hX hTn
    exact ⟨hX.turn hTn (by omega), fun k hk => by have := hX.size; omega⟩
  case hIx => exact fun _ _ _ _ h _ => h
  case stop => exact fun _ _ _ _ _ _ h => h.elim
  case body =>
    rintro l pre n da dc aa ac bl W hl0 hrec ⟨rest, hSp⟩ hIW hG hbl
    simp only [List.setIfInBounds_toArray, List.set_cons_succ, List.set_cons_zero]
    have hh : W.cell? ⟨bl, 14, none⟩ = some (.bool n.has) := cell_of_row _ _ _ _ _ _ hbl
    have hp0 : W.cell? ⟨bl, 0, none⟩ = some (.string n.path) := cell_of_row _ _ _ _ _ _ hbl
    have hc1 : W.cell? ⟨w.heap.size, 0, none⟩ = some (.pointer po) := cell_of_row _ _ _ _ _ _ hIW.c1
    have hcb : W.cell? ⟨w.heap.size + 1 + 1, 0, none⟩ = some (.map (some (w.heap.size + 1))) := cell_of_row _ _ _ _ _ _ hIW.cb
    have hc3 : W.cell? ⟨w.heap.size + 1 + 1 + 1, 0, none⟩ = some (.pointer (some ⟨w.heap.size + 1 + 1, 0, none⟩)) := cell_of_row _ _ _ _ _ _ hIW.c3
    have hsn := usedP_snoc M (pre.map (·.2)) n
    have hpre : (pre ++ [(Value.agg (ndC n (.slice da n.data.length dc) (.slice aa n.acl.length ac)), n)]).map (·.2) = pre.map (·.2) ++ [n] := by simp
    have hSp : (pre.map (·.2) ++ [n]) ++ rest = nds M := by rw [← hpre]; exact hSp
    have HSN := Lib.hid hsn
    have HPRE := Lib.hid hpre
    have HIW := Lib.hid hIW
    clear hsn hpre
    refine wpIn_block ?_
    cases hhas : n.has with
    | false =>
      rw [hhas] at hh
      have hst : usedP M (pre.map (·.2) ++ [n]) = usedP M (pre.map (·.2)) := by rw [HSN.out, hhas]; simp
      have HST := Lib.hid hst
      clear hst hhas hSp
      gi_wp2
      have hK := Kp.ext (B := W1.heap.size) (ga := w.heap.size + 1) (Ext.refl W)
      have hi := HIW.out
      exact ⟨hK.recs, hK.cells, ⟨by rw [HPRE.out, HST.out]; exact hi.map, hi.c1, hi.cb, hi.c3, hi.size, hi.keep⟩⟩
    | true =>
      rw [hhas] at hh
      have hst : usedP M (pre.map (·.2) ++ [n]) = usedP M (pre.map (·.2)) ++ [(keyN n, usedV M n)] := by rw [HSN.out, hhas]; simp
      have hmem : n ∈ nds M := by rw [← hSp]; simp
      obtain ⟨x0, hx0, hxe⟩ := List.mem_map.1 hmem
      have hx1 : x0.2 = n := hxe
      have hkx : x0.1 = keyN n := by rw [← hx1]; exact HM.out.key x0 hx0
      have hg : mget M n.path.data.toList = some n := mget_of_mem HM.out.sorted (by
        have : x0 = (n.path.data.toList, n) := Prod.ext hkx hx1
        rw [← this]; exact hx0)
      have hps : n.path.size ≤ maxLen := by
        have := (right_fit (HM.out.at hg).2).1.path
        unfold maxLen; omega
      have hsrt : ∀ y ∈ usedP M (pre.map (·.2)), bytesBefore y.1 (keyN n) = true := fun y hy => by
        unfold usedP at hy
        obtain ⟨m, hm, rfl⟩ := List.mem_map.1 hy
        have hm := (List.mem_filter.1 hm).1
        have hpw : (nds M).Pairwise fun a b => bytesBefore (keyN a) (keyN b) = true := by
          unfold nds
          rw [List.pairwise_map]
          exact HM.out.sorted.imp_of_mem fun {a b} ha hb h => by
            rw [← HM.out.key a ha, ← HM.out.key b hb]; exact h
        rw [← hSp, List.pairwise_append, List.pairwise_append] at hpw
        exact hpw.1.2.2 m hm n (List.mem_singleton.2 rfl)
      have hlen := usedP_length M (pre.map (·.2))
      have hpl : (pre.map (·.2)).length ≤ M.length := by
        have := congrArg List.length hSp
        rw [nds_length] at this
        simp only [List.length_append] at this
        omega
      have hWe : ∀ W2, Ext W W2 → Calls Tryz.prog 60 #[.pointer po, .string n.path] W2 fun e w' => e = .returned (.tuple #[.int .i64 (undK M n.path).length, .int .i64 (bytesK M (undK M n.path)), .int .i64 0]) ∧ Ext W2 w' := fun W2 h2 => HWE.out W2 n (Ext.trans HIW.out.keep h2) hg
      have HST := Lib.hid hst
      have HSRT := Lib.hid hsrt
      clear hst hhas hSp hmem hx0 hxe hx1 hkx hg hsrt
      gi_wp2
      refine wpIn_region_P l (by kernel_rfl) (by rfl) (region_sp_last 26 [.val (.pointer (some ⟨w.heap.size + 1 + 1, 0, none⟩)), .val (.pointer (some ⟨w.heap.size + 1 + 1, 0, none⟩)), .val (.pointer (some ⟨w.heap.size + 1 + 1, 0, none⟩)), .val (.map (some (w.heap.size + 1))), .val (.pointer (some ⟨bl, 0, none⟩)), .val (.string n.path), .val (.pointer po), .prop (fun v w => ∃ x, v = WeighF x ∧ w.cell? ⟨x, 0, none⟩ = some (.pointer po)), .val (.pointer (some ⟨bl, 0, none⟩)), .val (.string n.path), .val (.agg #[.int .i64 (undK M n.path).length, .int .i64 (bytesK M (undK M n.path))])] ⟨fun v w w' h hE => by obtain ⟨x, h1, h2⟩ := h; exact ⟨x, h1, (hE.cell (World.block_lt_of_cell? _ _ h2)).trans h2⟩, trivial⟩ 11 _ rfl rfl rfl rfl rfl (by decide) rfl ?duties ?last)
      case duties =>
        refine ⟨?_, ?_, ?_, ?_, ?_, ?_, ?_, ?_, ?_, ?_, ?_, trivial⟩
        · refine duty_free rfl fun a w' hE hF hA => ?_
          have x1 := hF.slot 3 _ (by decide) rfl
          exact wp_value (ex_cell rfl _ _ x1 ((hE.cell (World.block_lt_of_cell? _ _ hc3)).trans hc3) rfl Tryz.underlying57) ⟨_, rfl, rfl, Ext.refl _⟩
        · refine duty_free rfl fun a w' hE hF hA => ?_
          have x1 := hA.pick 0 14 (.pointer (some ⟨w.heap.size + 1 + 1, 0, none⟩)) rfl rfl ⟨⟨0, .data⟩, by simp, rfl, rfl⟩ (fun u h => h)
          exact wp_value (ex_nilCheck rfl _ x1) ⟨_, rfl, rfl, Ext.refl _⟩
        · refine duty_free rfl fun a w' hE hF hA => ?_
          have x1 := hA.pick 1 15 (.pointer (some ⟨w.heap.size + 1 + 1, 0, none⟩)) rfl rfl ⟨⟨1, .data⟩, by simp, rfl, rfl⟩ (fun u h => h)
          exact wp_value (w' := w') (v := .pointer (some ⟨w.heap.size + 1 + 1, 0, none⟩)) (by simp only [execOp, x1]; simp [go_sem]) ⟨_, rfl, rfl, Ext.refl _⟩
        · refine duty_free rfl fun a w' hE hF hA => ?_
          have x1 := hA.pick 2 16 (.pointer (some ⟨w.heap.size + 1 + 1, 0, none⟩)) rfl rfl ⟨⟨2, .data⟩, by simp, rfl, rfl⟩ (fun u h => h)
          exact wp_value (ex_cell rfl _ _ x1 ((hE.cell (World.block_lt_of_cell? _ _ hcb)).trans hcb) rfl Tryz.underlying149) ⟨_, rfl, rfl, Ext.refl _⟩
        · refine duty_free rfl fun a w' hE hF hA => ?_
          have x1 := hF.slot 4 _ (by decide) rfl
          exact wp_value (w' := w') (v := .pointer (some ⟨bl, 0, none⟩)) (by simp only [execOp, x1]; simp [go_sem]) ⟨_, rfl, rfl, Ext.refl _⟩
        · refine duty_free rfl fun a w' hE hF hA => ?_
          have x1 := hA.pick 4 18 (.pointer (some ⟨bl, 0, none⟩)) rfl rfl ⟨⟨4, .data⟩, by simp, rfl, rfl⟩ (fun u h => h)
          exact wp_value (ex_cell rfl _ _ x1 ((hE.cell (World.block_lt_of_cell? _ _ hp0)).trans hp0) rfl Tryz.underlying9) ⟨_, rfl, rfl, Ext.refl _⟩
        · refine duty_free rfl fun a w' hE hF hA => ?_
          have x1 := hF.slot 1 _ (by decide) rfl
          exact wp_value (ex_cell rfl _ _ x1 ((hE.cell (World.block_lt_of_cell? _ _ hc1)).trans hc1) rfl Tryz.underlying23) ⟨_, rfl, rfl, Ext.refl _⟩
        · refine duty_free rfl fun a w' hE hF hA => ?_
          have x1 := hA.pick 6 20 (.pointer po) rfl rfl ⟨⟨6, .data⟩, by simp, rfl, rfl⟩ (fun u h => h)
          refine wp_enter (ex_call rfl (enters_f Tryz.func85 (by kernel_rfl) rfl)) (by simp only [List.map_toArray, List.map_cons, List.map_nil, x1]; exact qweigh_any (.pointer po) ⟨_, rfl⟩ w') ?_
          rintro e w4 ⟨x, rfl, hx, _, hb⟩
          exact ⟨_, rfl, _, rfl, ⟨x, rfl, hx⟩, hb⟩
        · refine duty_free rfl fun a w' hE hF hA => ?_
          have x1 := hF.slot 4 _ (by decide) rfl
          exact wp_value (w' := w') (v := .pointer (some ⟨bl, 0, none⟩)) (by simp only [execOp, x1]; simp [go_sem]) ⟨_, rfl, rfl, Ext.refl _⟩
        · refine duty_free rfl fun a w' hE hF hA => ?_
          have x1 := hA.pick 8 22 (.pointer (some ⟨bl, 0, none⟩)) rfl rfl ⟨⟨8, .data⟩, by simp, rfl, rfl⟩ (fun u h => h)
          exact wp_value (ex_cell rfl _ _ x1 ((hE.cell (World.block_lt_of_cell? _ _ hp0)).trans hp0) rfl Tryz.underlying9) ⟨_, rfl, rfl, Ext.refl _⟩
        · refine duty_free rfl fun a w' hE hF hA => ?_
          have p1 : (fun v w => ∃ x, v = WeighF x ∧ w.cell? ⟨x, 0, none⟩ = some (.pointer po)) (a.eval (.tmp 21)) w' := hA.slot 7 21 rfl rfl ⟨⟨7, .data⟩, by simp, rfl, rfl⟩
          have x2 := hA.pick 9 23 (.string n.path) rfl rfl ⟨⟨9, .data⟩, by simp, rfl, rfl⟩ (fun u h => h)
          obtain ⟨x, x1, hx⟩ := p1
          refine wp_enter (ex_callv rfl x1 (enters_f Tryz.func143 (by kernel_rfl) rfl)) (by simp only [List.map_toArray, List.map_cons, List.map_nil, List.append_toArray, List.cons_append, List.nil_append, x2]; exact qweigh1_any x (.pointer po) n.path _ _ 0 w' hx fun W2 h2 => hWe W2 (hE.trans h2)) ?_; rintro e w4 ⟨rfl, hb⟩; exact ⟨_, rfl, _, rfl, rfl, hb⟩
      case last =>
        intro W8 hE8
        simp only [forS]
        intro u hu
        clear hu
        have hi := HIW.out.ext hE8 (by omega)
        have hq1 : (usedP M (pre.map (·.2))).length < maxLen := by unfold maxLen; omega
        have HI8 := Lib.hid hi
        have HE8 := Lib.hid hE8
        clear hE8 hi
        simp only [filled, List.take_succ_cons, List.take_zero, List.zip_cons_cons, List.zip_nil_left, List.foldl_cons, List.foldl_nil, Act.put, List.setIfInBounds_toArray, List.set_cons_succ, List.set_cons_zero]
        refine oper_put (.tmp 17) (.tmp 19) (.tmp 24) 149 rfl 9 110 strT Tryz.underlying149 (w.heap.size + 1) (usedP M (pre.map (·.2))) HI8.out.map hq1 rfl n.path hps rfl _ rfl ?_
        intro W9 hS9 hT9
        have hi := HI8.out
        have hMod : Mod (· = w.heap.size + 1) W8 W9 := Mod.turned hT9 rfl
        have hK := (Kp.ext (B := W1.heap.size) (ga := w.heap.size + 1) HE8.out).trans (Kp.mod hMod fun k hk => by omega)
        change KeepsRec W1.heap.size W W9 ∧ KeepS (fun _ k => k ≠ w.heap.size + 1) W W9 ∧ BegI M (.pointer po) w.heap.size (w.heap.size + 1) (w.heap.size + 1 + 1) (w.heap.size + 1 + 1 + 1) w W1 (pre ++ [_]) W9
        refine ⟨hK.recs, hK.cells, ⟨?_, hMod.cells hi.c1, hMod.cells hi.cb, hMod.cells hi.c3, Nat.le_trans hi.size hMod.size, hi.keep.trans (hMod.below (fun k hk => by subst hk; exact Nat.le_succ _) hi.keep.size)⟩⟩
        rw [HPRE.out, HST.out]
        have e := mput_last (v := usedV M n) HSRT.out
        rw [← e]
        exact hS9
  case done =>
    rintro D xs W hD hS hIW hK
    have hfin : Ext w (W.putObj D (.deferred none)) := hIW.keep.trans ((Turn.putObj (B := W1.heap.size) (.deferred none) hD hK rfl).below (by omega) hIW.keep.size)
    have HFIN := Lib.hid hfin
    have HK := Lib.hid hK
    have hc3 : W.cell? ⟨w.heap.size + 1 + 1 + 1, 0, none⟩ = some (.pointer (some ⟨w.heap.size + 1 + 1, 0, none⟩)) := cell_of_row _ _ _ _ _ _ hIW.c3
    have hbk : BookAt (W.putObj D (.deferred none)) (w.heap.size + 1 + 1) (w.heap.size + 1) (usedL M) := by
      have hi := hIW.turn (Turn.putObj (B := W1.heap.size) (.deferred none) hD hK rfl) (by omega)
      refine ⟨hi.cb, ?_⟩
      have h := hi.map
      rw [hS] at h
      exact h
    have HBK := Lib.hid hbk
    clear hfin hK hbk TT HI1 hIW
    gi_wp2
    refine ⟨by simp, .inl ⟨_, _, rfl, run_takeDeferred HK.out, ?_⟩⟩
    refine ⟨_, results_tmp rfl _ _ _, ?_⟩
    exact ⟨_, _, rfl, HBK.out, by omega, by omega, HFIN.out⟩
end Go.Proofs.YtamolbegmkngdaaGreatDoor
namespace Go.Proofs.YtamolbegmkngdaaGreatDoor
open Go.RowKit Go.Sort
set_option maxHeartbeats 4000000
set_option maxRecDepth 100000

/-- A book's values are nodes and bytes. -/
def Pairs (m : List (Key × Value)) : Prop := ∀ x ∈ m, ∃ c b : Int, x.2 = .agg #[.int .i64 c, .int .i64 b]
theorem usedP_pairs (M : List (Key × Nd)) (L : List Nd) : Pairs (usedP M L) := fun x hx => by
  unfold usedP at hx
  obtain ⟨n, _, rfl⟩ := List.mem_map.1 hx
  exact ⟨_, _, rfl⟩
def usedAt (m : List (Key × Value)) (s : ByteArray) : Value := (mget m s.data.toList).getD (.agg zeroUsed)
theorem Pairs.at {m : List (Key × Value)} (h : Pairs m) (s : ByteArray) : ∃ c b : Int, usedAt m s = .agg #[.int .i64 c, .int .i64 b] := by
  unfold usedAt
  cases hg : mget m s.data.toList with
  | none => exact ⟨0, 0, rfl⟩
  | some v => exact h _ (mget_some_mem hg)

theorem qused_any (w : World) (bb bm : Nat) (m : List (Key × Value)) (hB : BookAt w bb bm m) (hv : Pairs m) (s : ByteArray) (hs : s.size ≤ maxLen) :
    Calls Tryz.prog 67 #[.pointer (some ⟨bb, 0, none⟩), .string s] w fun e w' => e = .returned (.tuple #[usedAt m s, .bool (mget m s.data.toList).isSome]) ∧ Ext w w' := by
  obtain ⟨c, b, hcb⟩ := hv.at s
  obtain ⟨W1, hW1⟩ : ∃ W1, W1 = w.alloc (.cells zeroUsed 110) := ⟨_, rfl⟩
  have hE1 : Ext w W1 := by rw [hW1]; exact Ext.alloc _ _
  have hz1 : W1.heap.size = w.heap.size + 1 := by rw [hW1]; simp
  have hr1 : W1.heap[w.heap.size]? = some (.cells zeroUsed 110 (0, 0)) := by rw [hW1]; exact heap_alloc_new w _
  obtain ⟨W2, hW2⟩ : ∃ W2, W2 = W1.alloc (.cells #[.int .i64 c, .int .i64 b] 110) := ⟨_, rfl⟩
  have hE2 : Ext W1 W2 := by rw [hW2]; exact Ext.alloc _ _
  have hr2 := (hE2.block w.heap.size (by omega)).trans hr1
  have hb2 : W2.heap[W1.heap.size]? = some (.cells #[.int .i64 c, .int .i64 b] 110 (0, 0)) := by rw [hW2]; exact heap_alloc_new W1 _
  have hB1 := hB.ext hE1
  have hbk : W1.cell? ⟨bb, 0, none⟩ = some (.map (some bm)) := cell_of_row _ _ _ _ _ _ hB1.1
  have hlk := SMap.look_ok (e := 110) hB1.2 strT Tryz.underlying149 (z := .agg zeroUsed) (by kernel_rfl) hs
  rw [show (mget m s.data.toList).getD (.agg zeroUsed) = .agg #[.int .i64 c, .int .i64 b] from hcb] at hlk
  have HSET := (setRow_alloc W1 zeroUsed #[.int .i64 c, .int .i64 b] 110).trans hW2.symm
  have HNew := heap_alloc_new W1 (.cells zeroUsed 110)
  have hr3 := setRow_heap W2 w.heap.size _ #[.int .i64 c, .int .i64 b] 110 (0, 0) hr2
  have hE3 : Ext w (W2.setRow w.heap.size #[.int .i64 c, .int .i64 b]) := (hE1.trans hE2).trans' ⟨rfl, rfl, rfl, by simp [World.setRow], fun k hk => setRow_other _ _ _ _ (by omega)⟩
  rw [hcb]
  generalize (mget m s.data.toList).isSome = th at *
  rw [hz1] at hb2
  have HB2 := Lib.hid hb2
  have HR2 := Lib.hid hr2
  have HR3 := Lib.hid hr3
  have HE3 := Lib.hid hE3
  unfold zeroUsed at HSET HNew HR2
  have hbk' := hbk
  have hlk' := hlk
  unfold zeroUsed at hW1
  rw [hW1] at HSET HNew hbk' hlk'
  rw [World.size_alloc] at HSET HNew
  have HSET := Lib.hid HSET
  have HNew := Lib.hid HNew
  clear hbk hlk hcb hW2 hb2 hr2 hr3 hE3 hB1 hB hr1 hE1 hE2 hW1
  go_enter Tryz.func67, Tryz.ntmps67
  go_wp2_with (first | (refine wpList_store_row rfl 110 (.tmp 6) (.tmp 18) rfl (w.heap.size + 1) _ rfl rfl 110 _ HNew.out sizeUsed rfl (by simp [Value.oneCell']) ?_; rw [HSET.out]) | (refine wpList_load_row rfl 110 (.tmp 6) rfl (w.heap.size + 1) rfl 110 _ (0, 0) _ HB2.out Tryz.underlying110 rfl sizeUsed ?_) | (refine wpList_store_row rfl 110 (.tmp 4) (.tmp 20) rfl w.heap.size _ rfl rfl 110 _ HR2.out sizeUsed rfl (by simp [Value.oneCell']) ?_))
  refine bodyPost_ret (v := .tuple #[.agg #[.int .i64 c, .int .i64 b], .bool th]) ?_ rfl ⟨rfl, HE3.out⟩
  exact results_cell_row2 (p := 4) (q := 5) (ty := 110) rfl _ _ w.heap.size 110 _ (0, 0) _ _ rfl rfl HR3.out Tryz.underlying110 rfl sizeUsed
end Go.Proofs.YtamolbegmkngdaaGreatDoor
