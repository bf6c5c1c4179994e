/- A row of the call's own that shows nodes that were cloned for it; how it grows by one. The plain sums of TreeSums. The walk of (*Tree).Weigh. The walk of arborref07's Below. The walk of arborref07's Weigh. The walk of arborref07's After. The walks of arborref03's Name and arborref07's Kids. The walks of arborref05's Of, arborref07's Stat and Children. -/
import Derived.Test.YtamolbegmkngdaaGreatDoorJTreeMakes10
import Derived.Test.YtamolbegmkngdaaGreatDoorJTreeMakes7
import Derived.Test.YtamolbegmkngdaaGreatDoorJTreeMakes12
import Derived.Test.YtamolbegmkngdaaGreatDoorJTreeMakes13
import Derived.Test.YtamolbegmkngdaaGreatDoorJTreeMakes11
import Derived.Test.YtamolbegmkngdaaGreatDoorJTreeMakes8
namespace Go.Proofs.YtamolbegmkngdaaGreatDoor
open Go.RowKit Go.Sort
set_option maxHeartbeats 2000000
set_option maxRecDepth 100000

/-- What a clone of the row's nodes may lie in. -/
def NewN (base : Nat) (v : Value) (w : World) (b : Nat) : Prop := base ≤ b ∧ b < w.heap.size ∧ v.ownBlock ≠ some b
def OwnN (base : Nat) (L : List Nd) (v : Value) (w : World) : Prop :=
  ∃ vs : List (Array Value), w.ownsRow base 47 17 v L.length (vs.flatMap Array.toList) ∧ EachN (NewN base v w) w vs L

theorem EachN.imp {S S' : Nat → Prop} {w w' : World} {vs : List (Array Value)} {L : List Nd} (h : EachN S w vs L) (hS : ∀ b, S b → S' b) (hw : ∀ (b o : Nat) u, S b → w.cell? ⟨b, o, none⟩ = some u → w'.cell? ⟨b, o, none⟩ = some u) : EachN S' w' vs L :=
  ⟨h.1, fun j cs hj => by
    obtain ⟨n, hn, hN⟩ := h.2 j cs hj
    exact ⟨n, hn, NdS.imp hN hS fun b o u hb hu => hw b o u hb hu⟩⟩

theorem OwnN.nil (base : Nat) (w : World) : OwnN base [] (.slice none 0 0) w :=
  ⟨[], World.ownsRow_nil _ _ _ _, ⟨rfl, fun j cs h => by simp at h⟩⟩

theorem cell_ext {w w' : World} (h : Ext w w') (b o : Nat) (u : Value) (hu : w.cell? ⟨b, o, none⟩ = some u) : w'.cell? ⟨b, o, none⟩ = some u :=
  (h.cell (p := ⟨b, o, none⟩) (World.block_lt_of_cell? _ _ hu)).trans hu

theorem OwnN.ext {base : Nat} {L : List Nd} {v : Value} {w w' : World} (h : OwnN base L v w) (hE : Ext w w') : OwnN base L v w' := by
  obtain ⟨vs, h1, h2⟩ := h
  exact ⟨vs, h1.kept (grown_of_ext hE none) (Classical.em _), h2.imp (fun b hb => ⟨hb.1, Nat.lt_of_lt_of_le hb.2.1 hE.size, hb.2.2⟩) fun b o u _ hu => cell_ext hE b o u hu⟩

/-- A new node is handed to the row. -/
theorem OwnN.step {base : Nat} {L : List Nd} {v v' : Value} {w w5 : World} {vs : List (Array Value)} {cs : Array Value} {n : Nd} {t : TypeId} (hE : EachN (NewN base v w) w vs L) (hN : NdS (NewN base v w) w (.agg cs) n)
    (hown : w5.ownsRow base 47 17 v' (L.length + 1) (vs.flatMap Array.toList ++ cs.toList)) (hg : (w.alloc (.cells cs t)).grownBy w5 v.ownBlock) (ho : v'.ownBlock = v.ownBlock ∨ v'.ownBlock = some (w.heap.size + 1)) :
    OwnN base (L ++ [n]) v' w5 := by
  have hz := hg.size
  simp only [World.size_alloc] at hz
  have hS : ∀ b, NewN base v w b → NewN base v' w5 b := fun b hb => ⟨hb.1, by have := hb.2.1; omega, fun e => by
    rcases ho with h | h
    · rw [h] at e; exact hb.2.2 e
    · rw [h] at e; cases e; have := hb.2.1; omega⟩
  have hw : ∀ (b o : Nat) u, NewN base v w b → w.cell? ⟨b, o, none⟩ = some u → w5.cell? ⟨b, o, none⟩ = some u := fun b o u hb hu => by
    rw [World.cell?_of_block ((hg.block b (by simp; have := hb.2.1; omega) (fun e => hb.2.2 e.symm)).trans (heap_alloc_old w _ hb.2.1))]
    exact hu
  refine ⟨vs ++ [cs], by simpa using hown, (hE.imp hS hw).append ((EachN.one hN).imp hS hw)⟩

/-- Memory as it was, but the row. -/
theorem OwnN.keep {base : Nat} {v : Value} {w w5 : World} {cs : Array Value} {n : Nat} {xs : List Value} {t : TypeId} {w0 : World} (hE0 : Ext w0 w) (hb : w0.heap.size ≤ base) (hown : w.ownsRow base 47 17 v n xs) (hg : (w.alloc (.cells cs t)).grownBy w5 v.ownBlock) : Ext w0 w5 := by
  refine hE0.trans' ⟨hg.os, hg.tape, hg.output, by have := hg.size; simp at this; omega, fun k hk => ?_⟩
  have hz := hE0.size
  refine (hg.block k (by simp; omega) (fun e => ?_)).trans (heap_alloc_old w _ (by omega))
  have := ownBlock_ge hown k e.symm
  omega

/-- The row as rows that show nodes. -/
theorem OwnN.rows {base : Nat} {L : List Nd} {v : Value} {w : World} (h : OwnN base L v w) : ∃ a c vs, v = .slice a L.length c ∧ L.length ≤ c ∧ c ≤ maxLen ∧ RowsOf (fun k => base ≤ k ∧ k < w.heap.size) w a vs L ∧ PlainA a c := by
  obtain ⟨vs, h1, h2⟩ := h
  obtain ⟨a, c, e, h3, h4, h5, h6⟩ := RowsOf.of_own (S := fun k => base ≤ k ∧ k < w.heap.size) h1 rfl h2.1 (fun k h1 h2 => ⟨h1, h2⟩) (h2.imp (fun b hb => ⟨hb.1, hb.2.1⟩) fun _ _ _ _ h => h).2
  exact ⟨a, c, vs, e, h3, h4, h5, h6⟩

theorem nds_cons (x : Key × Nd) (M : List (Key × Nd)) : nds (x :: M) = x.2 :: nds M := rfl
theorem nds_take_succ {M : List (Key × Nd)} {k : Nat} (hk : k < M.length) : nds (M.take (k + 1)) = nds (M.take k) ++ [M[k].2] := by
  unfold nds
  rw [List.take_succ_eq_append_getElem hk, List.map_append]; rfl
end Go.Proofs.YtamolbegmkngdaaGreatDoor
namespace Go.Proofs.YtamolbegmkngdaaGreatDoor
open Go.RowKit
set_option maxHeartbeats 1000000

/-- The children of a path, in order. -/
def kidN (M : List (Key × Nd)) (p : ByteArray) : List (Key × Nd) := M.filter fun c => childOf p c.2
theorem kidsOf_map (M : List (Key × Nd)) (p : ByteArray) : kidsOf M p = (kidN M p).map fun x => (nameK x.2, Value.agg #[]) := rfl
theorem kidN_length (M : List (Key × Nd)) (p : ByteArray) : (kidN M p).length = (kidsOf M p).length := by rw [kidsOf_map, List.length_map]
theorem kidN_mem {M : List (Key × Nd)} {p : ByteArray} {x : Key × Nd} : x ∈ kidN M p ↔ x ∈ M ∧ childOf p x.2 = true := by
  unfold kidN; rw [List.mem_filter]
/-- The sum behind k children. -/
def partN (M : List (Key × Nd)) (p : ByteArray) (own : Nat) (a : Nd → Nat) (k : Nat) : Nat := own + (((kidN M p).take k).map fun c => wtN M c.2.path a).sum
theorem partN_zero (M : List (Key × Nd)) (p : ByteArray) (own : Nat) (a : Nd → Nat) : partN M p own a 0 = own := by
  unfold partN; simp
theorem partN_succ {M : List (Key × Nd)} {p : ByteArray} {own : Nat} {a : Nd → Nat} {k : Nat} (hk : k < (kidN M p).length) : partN M p own a (k + 1) = partN M p own a k + wtN M (kidN M p)[k].2.path a := by
  unfold partN
  rw [List.take_succ_eq_append_getElem hk, List.map_append, List.sum_append]
  simp only [List.map_cons, List.map_nil, List.sum_cons, List.sum_nil]
  omega
theorem partN_all {M : List (Key × Nd)} (hM : MOk M) (hc : Clo M) {s : Key × Nd} (hs : s ∈ M) (a : Nd → Nat) : partN M s.2.path (a s.2) a (kidN M s.2.path).length = wtN M s.2.path a := by
  rw [wt_split hM hc hs]
  unfold partN
  rw [List.take_length]
  rfl
theorem sum_take_le (l : List Nat) (k : Nat) : (l.take k).sum ≤ l.sum := by
  induction l generalizing k with
  | nil => simp
  | cons x l ih =>
    cases k with
    | zero => simp
    | succ k => simp only [List.take_succ_cons, List.sum_cons]; have := ih k; omega
theorem partN_le {M : List (Key × Nd)} (hM : MOk M) (hc : Clo M) {s : Key × Nd} (hs : s ∈ M) (a : Nd → Nat) (k : Nat) : partN M s.2.path (a s.2) a k ≤ wtN M s.2.path a := by
  rw [← partN_all hM hc hs a]
  unfold partN
  rw [List.take_length, List.map_take]
  have := sum_take_le ((kidN M s.2.path).map fun c => wtN M c.2.path a) k
  omega
theorem wtN_one (M : List (Key × Nd)) (s : ByteArray) : wtN M s (fun _ => 1) = (undK M s).length := by
  unfold wtN undK
  rw [List.length_map]
  generalize M.filter (fun x => und x.2.path s) = l
  induction l with
  | nil => rfl
  | cons x l ih =>
    rw [List.map_cons, List.sum_cons, ih, List.length_cons, Nat.add_comm]
theorem sum_le_len {α : Type} (l : List α) (a : α → Nat) (B : Nat) (h : ∀ x ∈ l, a x ≤ B) : (l.map a).sum ≤ l.length * B := by
  induction l with
  | nil => simp
  | cons x l ih =>
    have h1 := h x (List.mem_cons_self ..)
    have h2 := ih fun y hy => h y (List.mem_cons_of_mem _ hy)
    simp only [List.map_cons, List.sum_cons, List.length_cons, Nat.add_mul]; omega
theorem wtN_le (M : List (Key × Nd)) (s : ByteArray) (a : Nd → Nat) (B : Nat) (h : ∀ x ∈ M, a x.2 ≤ B) : wtN M s a ≤ M.length * B := by
  unfold wtN
  refine Nat.le_trans (sum_le_len _ _ B fun x hx => h x (List.mem_filter.1 hx).1) ?_
  exact Nat.mul_le_mul_right _ (List.length_filter_le _ _)
theorem undK_length_le (M : List (Key × Nd)) (s : ByteArray) : (undK M s).length ≤ M.length := by
  unfold undK; rw [List.length_map]; exact List.length_filter_le _ _

/-- The bytes of the nodes at these paths. -/
def bytesK (M : List (Key × Nd)) (ks : List Key) : Nat := (ks.map fun k => ((mget M k).getD zeroN).data.length).sum
theorem bytesK_und {M : List (Key × Nd)} (hM : MOk M) (s : ByteArray) : bytesK M (undK M s) = wtN M s (fun n => n.data.length) := by
  unfold bytesK undK wtN
  rw [List.map_map]
  congr 1
  refine List.map_congr_left fun x hx => ?_
  have hx' := (List.mem_filter.1 hx).1
  show ((mget M x.1).getD zeroN).data.length = _
  rw [mget_of_mem hM.sorted (show (x.1, x.2) ∈ M from hx')]
  rfl
theorem bytesK_succ (M : List (Key × Nd)) (ks : List Key) (k : Nat) (hk : k < ks.length) : bytesK M (ks.take (k + 1)) = bytesK M (ks.take k) + ((mget M ks[k]).getD zeroN).data.length := by
  unfold bytesK
  rw [List.take_succ_eq_append_getElem hk, List.map_append, List.sum_append]
  simp
theorem data_le {M : List (Key × Nd)} (hM : MOk M) (k : Key) : ((mget M k).getD zeroN).data.length ≤ 1048575 := by
  cases hg : mget M k with
  | none => simp [zeroN]
  | some n => exact (right_fit (hM.at hg).2).2.1
theorem bytesK_le {M : List (Key × Nd)} (hM : MOk M) (ks : List Key) : bytesK M ks ≤ ks.length * 1048575 :=
  sum_le_len ks _ _ fun k _ => data_le hM k

/-- The children's paths as the law writes them. -/
theorem child_text {M : List (Key × Nd)} (hM : MOk M) {x y : Key × Nd} (hx : x ∈ M) (hy : y ∈ M) (h : childOf y.2.path x.2 = true) :
    (y.2.path.data.toList = [47] → (⟨#[47]⟩ : ByteArray) ++ ⟨(nameK x.2).toArray⟩ = x.2.path) ∧ (¬ y.2.path.data.toList = [47] → y.2.path ++ (⟨#[47]⟩ : ByteArray) ++ ⟨(nameK x.2).toArray⟩ = x.2.path) := by
  obtain ⟨c1, c2⟩ := childOf_iff.1 h
  have p1 := (path_split (right_vpath (hM.right x hx)) c1).1
  rw [c2] at p1
  have hv := right_vpath (hM.right y hy)
  constructor
  · intro hr
    apply ba_ext
    rw [p1]
    have h1 : y.2.path.size = 1 := by rw [← size_list, hr]; rfl
    unfold preL nameK
    rw [if_pos h1, hr]
    simp [ByteArray.data_append]
  · intro hr
    apply ba_ext
    rw [p1]
    have h1 : ¬ y.2.path.size = 1 := fun e => hr ((root_iff hv).1 e)
    unfold preL nameK
    rw [if_neg h1]
    simp [ByteArray.data_append]
theorem kid_get {M : List (Key × Nd)} (hM : MOk M) {p : ByteArray} {k : Nat} (hk : k < (kidN M p).length) : (kidN M p)[k] ∈ M ∧ childOf p (kidN M p)[k].2 = true := kidN_mem.1 (List.getElem_mem hk)
/-- A node is there. -/
theorem there_of {M : List (Key × Nd)} (hM : MOk M) {x : Key × Nd} (hx : x ∈ M) : mget M x.2.path.data.toList = some x.2 := by
  have hk := hM.key x hx
  have := mget_of_mem hM.sorted (show (x.1, x.2) ∈ M from hx)
  rw [hk] at this
  exact this
end Go.Proofs.YtamolbegmkngdaaGreatDoor
namespace Go.Proofs.YtamolbegmkngdaaGreatDoor
open Go.RowKit Go.Sort
set_option maxHeartbeats 2000000
set_option maxRecDepth 100000

theorem wpList_field {P : Program} {ops : Array Oper} {rest : List Oper} {o : Oper} {a : Act} {Q : Exit → Act → World → Prop} {w : World} (hg : o.guard = none) (ty : TypeId) (x : Operand) (i : Nat) (ho : o.op = .field ty x i) (u : Value) (hx : a.eval x = u) (v : Value)
    (hr : (Instr.field ty u i).run P w = .ok v w) (hK : wpList P ops Q rest (a.put o.dst v) w) : wpList P ops Q (o :: rest) a w :=
  wpList_plain hg fun K hK' => by
    subst hx
    unfold Oper.wp
    simp only [execOp, ho, Sem.run_bind, Sem.run_pure, Result.andThen_ok, hr]
    exact hK' _ _ hK
theorem field_data {a b c d e f g h i j k l m n o p q : Value} {w : World} : (Instr.field 47 (.agg #[a, b, c, d, e, f, g, h, i, j, k, l, m, n, o, p, q]) 1).run Tryz.prog w = .ok b w := by
  kernel_rfl

def WeighOut (M : List (Key × Nd)) (s : ByteArray) (w : World) (e : Ending) (w' : World) : Prop :=
  e = .returned (if (mget M s.data.toList).isSome = true then .tuple #[.int .i64 (undK M s).length, .int .i64 (bytesK M (undK M s)), .int .i64 0] else .tuple #[.int .i64 0, .int .i64 0, .int .i64 70]) ∧ Ext w w'

theorem UndL_none {M : List (Key × Nd)} {s : ByteArray} (h : mget M s.data.toList = none) : UndL M s = [] := by unfold UndL; rw [h]; rfl
theorem UndL_some {M : List (Key × Nd)} {s : ByteArray} {y : Nd} (h : mget M s.data.toList = some y) : UndL M s = undK M s := by unfold UndL; rw [h]; rfl
theorem und_self_mem {M : List (Key × Nd)} (hM : MOk M) {s : ByteArray} {y : Nd} (h : mget M s.data.toList = some y) : 0 < (undK M s).length := by
  have hm := mget_some_mem h
  have hp : y.path = s := (ba_ext (hM.at h).1).symm
  have : s.data.toList ∈ undK M s := by
    unfold undK
    exact List.mem_map.2 ⟨_, List.mem_filter.2 ⟨hm, by show und y.path s = true; rw [hp]; exact und_self s⟩, rfl⟩
  exact List.length_pos_of_mem this

theorem weigh_any (S : Nat → Prop) (w : World) (bt : Nat) (M : List (Key × Nd)) (N : Nat) (hT : TreeAt S w bt M N) (hc : Clo M) (s : ByteArray) (hs : s.size ≤ maxLen) (hN : M.length * 168 ≤ 140737488355328) :
    Calls Tryz.prog 60 #[.pointer (some ⟨bt, 0, none⟩), .string s] w (WeighOut M s w) := by
  have C1 := Lib.hid (under_any S w bt M N hT hc s hs (by omega))
  have HT := Lib.hid hT
  have hM := hT.ok
  clear hT
  go_enter Tryz.func60, Tryz.ntmps60
  go_wp2_with fail
  refine C1.out.mono ?_
  rintro e w1 ⟨v, rfl, hrow, hnil, hE1⟩
  clear C1
  obtain ⟨sa, sc, rfl, hcs⟩ := ownsRow_cells hrow
  cases hg : mget M s.data.toList with
  | none =>
    have hfin : WeighOut M s w (.returned (.tuple #[.int .i64 0, .int .i64 0, .int .i64 70])) w1 := ⟨by rw [hg]; rfl, hE1⟩
    have HFIN := Lib.hid hfin
    have e0 : (UndL M s).length = 0 := by rw [UndL_none hg]; rfl
    rw [e0] at *
    clear hfin hg hrow hnil hE1 hcs
    go_wp2
    go_ret3
    exact HFIN.out
  | some y =>
    have hU := UndL_some hg
    have hpos := und_self_mem hM hg
    rw [hU] at hcs
    rw [hU]
    generalize hks : undK M s = ks at *
    have hkl : ks.length ≤ M.length := by rw [← hks]; exact undK_length_le M s
    have hkey : ∀ k ∈ ks, k.length ≤ maxLen := fun k hk => by
      rw [← hks] at hk
      unfold undK at hk
      obtain ⟨x, hx, rfl⟩ := List.mem_map.1 hk
      have hxM := (List.mem_filter.1 hx).1
      have h1 := hM.key x hxM
      have h2 := (vpath_facts (right_vpath (hM.right x hxM))).2.1
      rw [h1]
      unfold keyN maxLen
      rw [size_list]; omega
    have hfin : WeighOut M s w (.returned (.tuple #[.int .i64 ks.length, .int .i64 (bytesK M ks), .int .i64 0])) w1 := ⟨by rw [hg, hks]; rfl, hE1⟩
    have HFIN := Lib.hid hfin
    have HCS := Lib.hid hcs
    have HKEY := Lib.hid hkey
    have hT1 := HT.out.ext hE1
    have HT1 := Lib.hid hT1
    have hlp : ¬ ks.length = 0 := by omega
    have hlb : ((ks.length : Int) == 0) = false := by simp; exact fun e => hlp (by rw [e]; rfl)
    have hl64 : ks.length ≤ 9223372036854775807 := by omega
    clear hfin hg hrow hnil hE1 hcs hkey hT1 hks HT hU hpos
    go_wp2
    go_loopw [8, 19] (fun sm i wr => ∃ k : Nat, k ≤ ks.length ∧ i = .int .i64 k ∧ sm = .int .i64 (bytesK M (ks.take k)) ∧ wr = w1) (fun _ i _ => ks.length - (intOf i).toNat)
    case atStart => exact ⟨0, Nat.zero_le _, rfl, rfl, rfl⟩
    case round =>
      obtain ⟨k, hk, rfl, rfl, rfl⟩ := hrel
      by_cases hlt : k < ks.length
      · obtain ⟨b, off, rfl, hb, hc⟩ := HCS.out k (encStr ks[k]) (by rw [List.getElem?_map, List.getElem?_eq_getElem hlt]; rfl)
        have hkz : (⟨ks[k].toArray⟩ : ByteArray).size ≤ maxLen := by
          have := HKEY.out ks[k] (List.getElem_mem hlt)
          rw [← size_list]; simpa using this
        obtain ⟨bn, bk, K, hd, hNd, hKd⟩ := HT1.out
        have hx := TreeAt.box hd
        obtain ⟨vv, hvv, _, hq⟩ := hNd.look' ⟨ks[k].toArray⟩ hkz
        rw [key_back] at hvv
        have hsucc := bytesK_succ M ks k hlt
        have hle1 := bytesK_le hM (ks.take k)
        have hle2 := data_le hM ks[k]
        have hln : (ks.take k).length ≤ ks.length := by simp; omega
        obtain ⟨ea, ec, fa, fc, rfl, _⟩ := hvv
        generalize (mget M ks[k]).getD zeroN = n at *
        have HSC := Lib.hid hsucc
        have hb1 : (0 : Int) ≤ (bytesK M (ks.take k) : Int) + (n.data.length : Int) := by omega
        have hb2 : (bytesK M (ks.take k) : Int) + (n.data.length : Int) < 9223372036854775808 := by omega
        unfold Box treeC at hx
        unfold ndC at hq
        clear hd hNd hKd hsucc
        go_wp2_with (refine wpList_field rfl 47 (.tmp 29) 1 rfl _ rfl (.slice ea n.data.length ec) field_data ?_)
        go_roundw
        case rel => exact ⟨k + 1, by omega, by go_num, by rw [HSC.out]; push_cast; go_num, by first | rfl | trivial⟩
        case measure => simp [intOf]; omega
      · obtain rfl : k = ks.length := by omega
        rw [List.take_length]
        go_wp2
        go_ret3
        exact HFIN.out
end Go.Proofs.YtamolbegmkngdaaGreatDoor
namespace Go.Proofs.YtamolbegmkngdaaGreatDoor
open Go.RowKit Go.Sort
set_option maxHeartbeats 4000000
set_option maxRecDepth 100000

/-- What of a list is under a path that is there. -/
def belB (M : List (Key × Nd)) (s : ByteArray) (x : Key × Nd) : Bool := (mget M s.data.toList).isSome && und x.2.path s
def belF (M : List (Key × Nd)) (s : ByteArray) (k : Nat) : List (Key × Nd) := (M.take k).filter (belB M s)
theorem belF_zero (M : List (Key × Nd)) (s : ByteArray) : belF M s 0 = [] := by simp [belF]
theorem belF_succ (M : List (Key × Nd)) (s : ByteArray) (k : Nat) (hk : k < M.length) : belF M s (k + 1) = belF M s k ++ if belB M s M[k] = true then [M[k]] else [] := by
  unfold belF
  rw [List.take_succ_eq_append_getElem hk, List.filter_append]
  congr 1
  by_cases h : belB M s M[k] = true
  · rw [if_pos h, List.filter_cons_of_pos h]; rfl
  · rw [if_neg h, List.filter_cons_of_neg h]; rfl
theorem belF_le (M : List (Key × Nd)) (s : ByteArray) (k : Nat) : (belF M s k).length ≤ k := by
  unfold belF
  refine Nat.le_trans (List.length_filter_le _ _) ?_
  rw [List.length_take]; omega
theorem belF_all {M : List (Key × Nd)} (hM : MOk M) (s : ByteArray) : nds (belF M s M.length) = nodesOf M (UndL M s) := by
  unfold belF
  rw [List.take_length]
  unfold UndL
  by_cases hg : (mget M s.data.toList).isSome = true
  · rw [if_pos hg]
    unfold undK nodesOf nds
    rw [List.map_map]
    have e : M.filter (belB M s) = M.filter fun x => und x.2.path s := List.filter_congr fun x _ => by unfold belB; rw [hg, Bool.true_and]
    rw [e]
    refine List.map_congr_left fun x hx => ?_
    simp only [Function.comp]
    rw [mget_of_mem hM.sorted (List.mem_filter.1 hx).1]; rfl
  · rw [if_neg hg]
    have e : M.filter (belB M s) = [] := List.filter_eq_nil_iff.2 fun x _ => by
      unfold belB
      cases h : (mget M s.data.toList).isSome with
      | true => exact absurd h hg
      | false => simp
    rw [e]; rfl

/-- A row of the call's own that shows these nodes. -/
def NodesOut (L : List Nd) (w : World) (e : Ending) (w' : World) : Prop := ∃ v, e = .returned v ∧ OwnN w.heap.size L v w' ∧ Ext w w'

theorem belB_there {M : List (Key × Nd)} {s : ByteArray} {y : Nd} (hg : mget M s.data.toList = some y) (x : Key × Nd) : belB M s x = und x.2.path s := by unfold belB; rw [hg]; rfl
theorem belB_none {M : List (Key × Nd)} {s : ByteArray} (hg : mget M s.data.toList = none) (x : Key × Nd) : belB M s x = false := by unfold belB; rw [hg]; rfl

theorem rbelow_any (w : World) (b : Nat) (M : List (Key × Nd)) (hR : RT w b (nds M)) (hM : MOk M) (s : ByteArray) (hs : s.size ≤ 9223372036854775800) (hl : M.length * 168 ≤ 140737488355328) :
    Calls Tryz.prog 93 #[.pointer (some ⟨b, 0, none⟩), .string s] w (NodesOut (nodesOf M (UndL M s)) w) := by
  have hR0 := hR
  obtain ⟨a, cap, vs, hb, hlc, hcm, hS, hrows, _⟩ := hR
  have hcb : w.cell? ⟨b, 0, none⟩ = some (.slice a (nds M).length cap) := cell_of_row _ _ _ _ _ _ hb
  have hbl := (Array.getElem?_eq_some_iff.1 hb).1
  rw [nds_length] at hcb
  have hl64 : M.length ≤ 9223372036854775807 := by omega
  have HR := Lib.hid hR0
  have HROWS := Lib.hid hrows
  have HS := Lib.hid hS
  have HM := Lib.hid hM
  have HALL := Lib.hid (belF_all hM s)
  clear hb hrows hS hM hlc hcm hR0
  go_enter Tryz.func93, Tryz.ntmps93
  go_wp2
  go_loopw [5, 6] (fun ov i wr => ∃ k : Nat, k ≤ M.length ∧ i = .int .i64 k ∧ Hid (OwnN w.heap.size (nds (belF M s k)) ov wr) ∧ Ext w wr) (fun _ i _ => M.length - (intOf i).toNat)
  case atStart => exact ⟨0, Nat.zero_le _, rfl, by unfold Hid; rw [belF_zero]; exact OwnN.nil _ _, Ext.refl _⟩
  case round =>
    obtain ⟨k, hk, rfl, HO, hE⟩ := hrel
    have hcr : wr.cell? ⟨b, 0, none⟩ = some (.slice a M.length cap) := (hE.cell (p := ⟨b, 0, none⟩) hbl).trans hcb
    by_cases hlt : k < M.length
    · have hMk : (nds M)[k]? = some M[k].2 := by unfold nds; rw [List.getElem?_map, List.getElem?_eq_getElem hlt]; rfl
      obtain ⟨bl, off, da, dc, aa, ac, ea, hSb, hc, hD, hA, _⟩ := HROWS.out.row hMk
      subst ea
      have hfit := (right_fit (HM.out.right M[k] (List.getElem_mem hlt))).1
      have hvp := right_vpath (HM.out.right M[k] (List.getElem_mem hlt))
      have hsucc := belF_succ M s k hlt
      have hle := belF_le M s (k + 1)
      have hle0 := belF_le M s k
      have hbT := fun (y : Nd) (hg : mget M s.data.toList = some y) => belB_there hg M[k]
      have hbN := fun (hg : mget M s.data.toList = none) => belB_none hg M[k]
      have hndc : ∀ l : List (Key × Nd), nds (l ++ [M[k]]) = nds l ++ [M[k].2] := fun l => by unfold nds; simp
      generalize hxx : M[k] = x at *
      obtain ⟨xk, n⟩ := x
      simp only at *
      have c0 : wr.cell? ⟨bl, off + k * 17, none⟩ = some (.string n.path) := (hE.cell (p := ⟨bl, off + k * 17, none⟩) (HS.out bl hSb).1).trans (hc 0 _ rfl)
      have CG := Lib.hid (rget_any wr b M (HR.out.ext hE) HM.out s hs)
      have HC := Lib.hid hc
      have HD := Lib.hid ((hD.cells fun b hb => (HS.out b hb).1))
      have HA := Lib.hid ((hA.cells fun b hb => (HS.out b hb).1))
      have HFIT := Lib.hid hfit
      have hp64 := hfit.path
      have HB := Lib.hid (HS.out bl hSb)
      have HSUCC := Lib.hid hsucc
      have HNDC := Lib.hid hndc
      have HBT := Lib.hid hbT
      have HBN := Lib.hid hbN
      have HVP := Lib.hid hvp
      have HE := Lib.hid hE
      clear hc hD hA hfit hE hMk hsucc hbT hbN hndc hxx hvp
      go_wp2_with fail
      refine CG.out.mono ?_
      rintro e w2 ⟨v, rfl, hv, hE2⟩
      obtain ⟨ga, gc, ha, hc, rfl, _, _⟩ := hv
      generalize (mget M s.data.toList).getD zeroN = n0
      obtain ⟨W3, hW3⟩ : ∃ W3, W3 = w2.alloc (.cells (ndC n0 (.slice ga n0.data.length gc) (.slice ha n0.acl.length hc)) 47) := ⟨_, rfl⟩
      have HSET := Lib.hid ((setRow_alloc w2 zeroNd (ndC n0 (.slice ga n0.data.length gc) (.slice ha n0.acl.length hc)) 47).trans hW3.symm)
      have HNew := Lib.hid (heap_alloc_new w2 (.cells zeroNd 47))
      have hE2' : Ext wr w2 := hE2
      have hE3 : Ext wr W3 := hE2'.trans (by rw [hW3]; exact Ext.alloc _ _)
      have hcr3 : W3.cell? ⟨b, 0, none⟩ = some (.slice (some ⟨bl, off, none⟩) M.length cap) := (hE3.cell (p := ⟨b, 0, none⟩) (World.block_lt_of_cell? _ _ hcr)).trans hcr
      have c03 : W3.cell? ⟨bl, off + k * 17, none⟩ = some (.string n.path) := (hE3.cell (p := ⟨bl, off + k * 17, none⟩) (World.block_lt_of_cell? _ _ c0)).trans c0
      have HEW3 := Lib.hid (HE.out.trans hE3)
      have HO3 := Lib.hid (HO.out.ext hE3)
      unfold ndC at HSET ⊢
      unfold zeroNd at HSET HNew
      clear CG hE2 hE2' hE3 hW3 hcr c0
      cases hg : mget M s.data.toList with
      | none =>
        have hst : belF M s (k + 1) = belF M s k := by rw [HSUCC.out, HBN.out hg]; simp
        have HST := Lib.hid hst
        clear hst hg
        go_wp2_with (refine wpList_store_row rfl 47 (.tmp 7) (.tmp 26) rfl w2.heap.size _ rfl rfl 47 _ HNew.out sizeNd rfl (cells_node n0 ga ha _ _ gc hc) ?_; rw [HSET.out])
        go_roundw
        case rel => exact ⟨k + 1, by omega, by go_num, by unfold Hid; rw [HST.out]; exact HO3.out, HEW3.out⟩
        case measure => simp [intOf]; omega
      | some y =>
        have hvs : vpath s = true := by
          have := right_vpath (HM.out.at hg).2
          have hk := (HM.out.at hg).1
          unfold keyN at hk
          rwa [← ba_ext hk] at this
        have CU := rund_any n.path s W3 hp64 hs
        rw [hvs, HVP.out, Bool.true_and, Bool.true_and] at CU
        have CU := Lib.hid CU
        have hbt := HBT.out _ hg
        clear hvs
        cases hu : und n.path s with
        | false =>
          rw [hu] at CU hbt
          have hst : belF M s (k + 1) = belF M s k := by rw [HSUCC.out, hbt]; simp
          have HST := Lib.hid hst
          clear hst hg hbt hu
          go_wp2_with (refine wpList_store_row rfl 47 (.tmp 7) (.tmp 26) rfl w2.heap.size _ rfl rfl 47 _ HNew.out sizeNd rfl (cells_node n0 ga ha _ _ gc hc) ?_; rw [HSET.out])
          refine CU.out.mono ?_
          rintro e W4 ⟨rfl, hE4⟩
          have HE4 := Lib.hid (HEW3.out.trans hE4)
          have HO4 := Lib.hid (HO3.out.ext hE4)
          clear CU hE4 hcr3 c03
          go_wp2
          go_roundw
          case rel => exact ⟨k + 1, by omega, by go_num, by unfold Hid; rw [HST.out]; exact HO4.out, HE4.out⟩
          case measure => simp [intOf]; omega
        | true =>
          rw [hu] at CU hbt
          have hst : nds (belF M s (k + 1)) = nds (belF M s k) ++ [n] := by rw [HSUCC.out, hbt, if_pos rfl, HNDC.out]
          have hll : (nds (belF M s k)).length ≤ k := by rw [nds_length]; exact hle0
          have HST := Lib.hid hst
          clear hst hg hbt hu
          go_wp2_with (refine wpList_store_row rfl 47 (.tmp 7) (.tmp 26) rfl w2.heap.size _ rfl rfl 47 _ HNew.out sizeNd rfl (cells_node n0 ga ha _ _ gc hc) ?_; rw [HSET.out])
          refine CU.out.mono ?_
          rintro e W4 ⟨rfl, hE4⟩
          have hE4 : Ext W3 W4 := hE4
          have hE04 := HEW3.out.trans hE4
          have hcr4 : W4.cell? ⟨b, 0, none⟩ = some (.slice (some ⟨bl, off, none⟩) M.length cap) := (hE4.cell (p := ⟨b, 0, none⟩) (World.block_lt_of_cell? _ _ hcr3)).trans hcr3
          have hcw : ∀ j u, (ndC n (.slice da n.data.length dc) (.slice aa n.acl.length ac))[j]? = some u → W4.cell? ((⟨bl, off + k * 17, none⟩ : Addr).add j) = some u := fun j u hj => by
            rw [addr_add, hE04.cell (p := ⟨bl, off + k * 17 + j, none⟩) HB.out.1]
            exact HC.out j u hj
          have CC := Lib.hid (rclone_new n da aa dc ac W4 HFIT.out (HD.out.ext hE04) (HA.out.ext hE04))
          have HC4 := Lib.hid hcw
          have HE4 := Lib.hid hE04
          have HO4 := Lib.hid (HO3.out.ext hE4)
          unfold ndC at HC4
          clear CU hE4 hE04 hcr3 c03 hcw HC HD HA HO3 HO
          go_wp2_with (refine wpList_load_at rfl 47 (.tmp 47) rfl _ rfl _ _ HC4.out Tryz.underlying47 rfl sizeNd ?_)
          refine CC.out.mono ?_
          rintro e W5 ⟨v, rfl, hN, hE5⟩
          have hE5 : Ext W4 W5 := hE5
          obtain ⟨qa, qc, ra, rc, rfl, hQ1, hQ2⟩ := hN
          obtain ⟨ws, hown4, heach4⟩ := HO4.out
          have hzw := HE4.out.size
          have hz5 := hE5.size
          have hlt4 : ∀ g, u5.ownBlock = some g → w.heap.size ≤ g ∧ g < W4.heap.size := fun g hg => hown4.lt g hg
          have hown5 := hown4.kept (grown_of_ext hE5 none) (Classical.em _)
          have heach5 : EachN (NewN w.heap.size u5 W5) W5 ws (nds (belF M s k)) := heach4.imp (fun b hb => ⟨hb.1, Nat.lt_of_lt_of_le hb.2.1 hE5.size, hb.2.2⟩) fun b o u _ hu => cell_ext hE5 b o u hu
          have hnew5 : NdS (NewN w.heap.size u5 W5) W5 (.agg (ndC n (.slice qa n.data.length qc) (.slice ra n.acl.length rc))) n := NdS.imp ⟨qa, qc, ra, rc, rfl, hQ1, hQ2⟩ (fun k hk => ⟨by omega, hk.2, fun e => by have := (hlt4 k e).2; omega⟩) fun _ _ _ _ h => h
          have hs17 : Cells (W5.alloc (.cells (ndC n (.slice qa n.data.length qc) (.slice ra n.acl.length rc)) 47)).heap.size (W5.alloc (.cells (ndC n (.slice qa n.data.length qc) (.slice ra n.acl.length rc)) 47)) (some ⟨W5.heap.size, 0, none⟩) (ndC n (.slice qa n.data.length qc) (.slice ra n.acl.length rc)).toList := fun j u hj => by
            refine ⟨_, 0, rfl, by simp, ?_⟩
            rw [Nat.zero_add, cell_of_row _ _ _ _ _ _ (heap_alloc_new W5 _)]
            simpa using hj
          have hsrc : Src Tryz.prog 17 22 (.slice (some ⟨W5.heap.size, 0, none⟩) 1 1) 1 (ndC n (.slice qa n.data.length qc) (.slice ra n.acl.length rc)).toList (W5.alloc (.cells (ndC n (.slice qa n.data.length qc) (.slice ra n.acl.length rc)) 47)) :=
            hs17.src Tryz.underlying22 1 1 (by simp [ndC]) (fun u hu => by
              have := cells_node n qa ra n.data.length n.acl.length qc rc
              rw [← Array.all_toList] at this
              exact List.all_eq_true.1 this u hu)
          obtain ⟨i0, hi, hz0, hz1', hz2⟩ := info_parts infoNd
          have hownA := hown5.alloc (.cells (ndC n (.slice qa n.data.length qc) (.slice ra n.acl.length rc)) 47)
          have HE5 := Lib.hid (HE4.out.trans hE5)
          have HEA := Lib.hid heach5
          have HNW := Lib.hid hnew5
          have HO5 := Lib.hid hown5
          unfold ndC at hownA hsrc
          clear CC hE5 hQ1 hQ2 hown4 heach4 hlt4 hown5 heach5 hnew5 hs17 HC4 hcr4 HO4
          unfold ndC
          go_wp2_with (at_builtin; refine wpList_append_src _ rfl (.tmp 41) (.tmp 50) 22 22 rfl w.heap.size 47 i0 (.agg zeroNd) 17 168 Tryz.underlying22 hi hz0 hz1' hz2 rfl (by decide) _ (nds (belF M s k)).length _ rfl hownA _ 1 _ rfl hsrc ?c1 ?c2 ?c3 ?_)
          case c1 => unfold maxLen; omega
          case c2 => omega
          case c3 => first | omega | (simp; omega)
          intro v' w6 hown6 hg6 _ ho6
          rw [show [Value.string n.path, .slice qa n.data.length qc, .slice ra n.acl.length rc, .int .i64 n.owner, .int .i64 n.czxid, .int .i64 n.mzxid, .int .i64 n.pzxid, .int .i64 n.azxid, .int .i64 n.qzxid, .int .i64 n.ctime, .int .i64 n.mtime, .int .i32 n.version, .int .i32 n.creates, .int .i32 n.aversion, .bool n.has, .int .i64 n.count, .int .i64 n.bytes] = (ndC n (.slice qa n.data.length qc) (.slice ra n.acl.length rc)).toList from rfl] at hown6
          have hstep := OwnN.step HEA.out HNW.out hown6 hg6 ho6
          have hkeep := OwnN.keep HE5.out (Nat.le_refl _) HO5.out hg6
          rw [← HST.out] at hstep
          have HSTEP := Lib.hid hstep
          have HKEEP := Lib.hid hkeep
          clear hown6 hg6 ho6 hstep hkeep hownA hsrc
          go_wp2
          go_roundw
          case rel => exact ⟨k + 1, by omega, by go_num, HSTEP.out, HKEEP.out⟩
          case measure => simp [intOf]; omega
    · obtain rfl : k = M.length := by omega
      have hfin : NodesOut (nodesOf M (UndL M s)) w (.returned u5) wr := ⟨_, rfl, by rw [← HALL.out]; exact HO.out, hE⟩
      have HFIN := Lib.hid hfin
      clear hfin hE hcb HROWS HO
      go_wp2
      go_ret
      exact HFIN.out
end Go.Proofs.YtamolbegmkngdaaGreatDoor
namespace Go.Proofs.YtamolbegmkngdaaGreatDoor
open Go.RowKit Go.Sort
set_option maxHeartbeats 4000000
set_option maxRecDepth 100000

theorem rweigh_any (w : World) (b : Nat) (M : List (Key × Nd)) (hR : RT w b (nds M)) (hM : MOk M) (s : ByteArray) (hs : s.size ≤ 9223372036854775800) (hl : M.length * 168 ≤ 140737488355328) :
    Calls Tryz.prog 92 #[.pointer (some ⟨b, 0, none⟩), .string s] w (WeighOut M s w) := by
  have C1 := Lib.hid (rbelow_any w b M hR hM s hs hl)
  have HM := Lib.hid hM
  clear hR hM
  go_enter Tryz.func92, Tryz.ntmps92
  go_wp2_with fail
  refine C1.out.mono ?_
  rintro e w1 ⟨v, rfl, hown, hE1⟩
  obtain ⟨la, lc, vs, rfl, _, _, hrows, _⟩ := hown.rows
  clear C1 hown
  cases hg : mget M s.data.toList with
  | none =>
    have hfin : WeighOut M s w (.returned (.tuple #[.int .i64 0, .int .i64 0, .int .i64 70])) w1 := ⟨by rw [hg]; rfl, hE1⟩
    have HFIN := Lib.hid hfin
    have e0 : (nodesOf M (UndL M s)).length = 0 := by rw [UndL_none hg]; rfl
    rw [e0]
    clear hfin hg hrows hE1
    go_wp2
    go_ret3
    exact HFIN.out
  | some y =>
    have hU := UndL_some hg
    have hpos := und_self_mem HM.out hg
    rw [hU] at hrows ⊢
    generalize hks : undK M s = ks at *
    have hkl : ks.length ≤ M.length := by rw [← hks]; exact undK_length_le M s
    have hnl : (nodesOf M ks).length = ks.length := by unfold nodesOf; exact List.length_map _
    have hfin : WeighOut M s w (.returned (.tuple #[.int .i64 ks.length, .int .i64 (bytesK M ks), .int .i64 0])) w1 := ⟨by rw [hg, hks]; rfl, hE1⟩
    have HFIN := Lib.hid hfin
    have HROWS := Lib.hid hrows
    have hlp : ¬ ks.length = 0 := by omega
    have hlb : ((ks.length : Int) == 0) = false := by simp; exact fun e => hlp (by rw [e]; rfl)
    have hl64 : ks.length ≤ 9223372036854775807 := by omega
    rw [hnl]
    clear hfin hg hE1 hks hU hpos hrows
    go_wp2
    go_loopw [8, 9] (fun sm i wr => ∃ k : Nat, k ≤ ks.length ∧ i = .int .i64 k ∧ sm = .int .i64 (bytesK M (ks.take k)) ∧ wr = w1) (fun _ i _ => ks.length - (intOf i).toNat)
    case atStart => exact ⟨0, Nat.zero_le _, rfl, rfl, rfl⟩
    case round =>
      obtain ⟨k, hk, rfl, rfl, rfl⟩ := hrel
      by_cases hlt : k < ks.length
      · have hnk : (nodesOf M ks)[k]? = some ((mget M ks[k]).getD zeroN) := by unfold nodesOf; rw [List.getElem?_map, List.getElem?_eq_getElem hlt]; rfl
        obtain ⟨bl, off, da, dc, aa, ac, ea, hSb, hc, hD, hA, _⟩ := HROWS.out.row hnk
        subst ea
        have hsucc := bytesK_succ M ks k hlt
        have hle1 := bytesK_le HM.out (ks.take k)
        have hle2 := data_le HM.out ks[k]
        have hln : (ks.take k).length ≤ ks.length := by simp; omega
        generalize (mget M ks[k]).getD zeroN = n at *
        have c1 : wr.cell? ⟨bl, off + k * 17 + 1, none⟩ = some (.slice da n.data.length dc) := hc 1 _ rfl
        have HSC := Lib.hid hsucc
        have hb1 : (0 : Int) ≤ (bytesK M (ks.take k) : Int) + (n.data.length : Int) := by omega
        have hb2 : (bytesK M (ks.take k) : Int) + (n.data.length : Int) < 9223372036854775808 := by omega
        clear hc hD hA hsucc hnk
        go_wp2
        go_roundw
        case rel => exact ⟨k + 1, by omega, by go_num, by rw [HSC.out]; push_cast; go_num, by first | rfl | trivial⟩
        case measure => simp [intOf]; omega
      · obtain rfl : k = ks.length := by omega
        rw [List.take_length]
        go_wp2
        go_ret3
        exact HFIN.out
end Go.Proofs.YtamolbegmkngdaaGreatDoor
namespace Go.Proofs.YtamolbegmkngdaaGreatDoor
open Go.RowKit Go.Sort
set_option maxHeartbeats 4000000
set_option maxRecDepth 100000

theorem ordL_pos (a b : List UInt8) : 0 < ordL a b ↔ bytesBefore b a = true := by
  rw [ordL_eq]
  split
  · rename_i e
    subst e
    cases h : bytesBefore a a with
    | false => simp
    | true => exact (before_asymm h h).elim
  · rename_i hne
    split
    · rename_i h
      exact ⟨fun h => by omega, fun h2 => (before_asymm h h2).elim⟩
    · rename_i h
      refine ⟨fun _ => ?_, fun _ => by omega⟩
      rcases WideAt.bytes_total _ _ hne with h' | h'
      · exact absurd h' h
      · exact h'

theorem after_skip {M : List (Key × Nd)} (hM : MOk M) (s : ByteArray) {k : Nat} (hk : k < M.length) (h : ¬ 0 < ordL M[k].2.path.data.toList s.data.toList) : (M.drop k).find? (fun x => bytesBefore s.data.toList x.1) = (M.drop (k + 1)).find? fun x => bytesBefore s.data.toList x.1 := by
  rw [List.drop_eq_getElem_cons hk, List.find?_cons]
  have e := hM.key M[k] (List.getElem_mem hk)
  unfold keyN at e
  rw [ordL_pos, ← e] at h
  simp only [h]
theorem after_hit {M : List (Key × Nd)} (hM : MOk M) (s : ByteArray) {k : Nat} (hk : k < M.length) (h : 0 < ordL M[k].2.path.data.toList s.data.toList) : (M.drop k).find? (fun x => bytesBefore s.data.toList x.1) = some M[k] := by
  rw [List.drop_eq_getElem_cons hk, List.find?_cons]
  have e := hM.key M[k] (List.getElem_mem hk)
  unfold keyN at e
  rw [ordL_pos, ← e] at h
  simp only [h]

theorem rafter_any (w : World) (b : Nat) (M : List (Key × Nd)) (hR : RT w b (nds M)) (hM : MOk M) (s : ByteArray) (hs : s.size ≤ 9223372036854775800) : Calls Tryz.prog 91 #[.pointer (some ⟨b, 0, none⟩), .string s] w (AfterOut M s w) := by
  obtain ⟨W1, hW1⟩ : ∃ W1, W1 = w.alloc (.cells zeroNd 47) := ⟨_, rfl⟩
  have hE1 : Ext w W1 := by rw [hW1]; exact Ext.alloc _ _
  have hz1 : W1.heap.size = w.heap.size + 1 := by rw [hW1]; simp
  have hr1 : W1.heap[w.heap.size]? = some (.cells zeroNd 47 (0, 0)) := by rw [hW1]; exact heap_alloc_new w _
  obtain ⟨a, cap, vs, hb, hlc, hcm, hS, hrows, _⟩ := hR
  have hcb : w.cell? ⟨b, 0, none⟩ = some (.slice a (nds M).length cap) := cell_of_row _ _ _ _ _ _ hb
  have hbl := (Array.getElem?_eq_some_iff.1 hb).1
  rw [nds_length] at hcb hlc
  have hl64 : M.length ≤ 9223372036854775807 := by unfold maxLen at hcm; omega
  have HROWS := Lib.hid hrows
  have HS := Lib.hid hS
  have HM := Lib.hid hM
  have HW1 := Lib.hid hW1
  have HE1 := Lib.hid hE1
  have HR1 := Lib.hid hr1
  unfold zeroNd at HW1
  have hcb1 : W1.cell? ⟨b, 0, none⟩ = some (.slice a M.length cap) := (hE1.cell (p := ⟨b, 0, none⟩) hbl).trans hcb
  have HCB := Lib.hid hcb1
  clear hb hrows hS hM hW1 hE1 hr1 hcb hcb1
  go_enter Tryz.func91, Tryz.ntmps91
  go_wp2_with fail
  rw [← HW1.out]
  clear HW1
  go_loopw [6] (fun i wr => ∃ k : Nat, k ≤ M.length ∧ i = .int .i64 k ∧ Hid (afterN M s = (M.drop k).find? fun x => bytesBefore s.data.toList x.1) ∧ Ext W1 wr) (fun i _ => M.length - (intOf i).toNat)
  case atStart => exact ⟨0, Nat.zero_le _, rfl, rfl, Ext.refl _⟩
  case round =>
    obtain ⟨k, hk, rfl, HF, hE⟩ := hrel
    have hcr : wr.cell? ⟨b, 0, none⟩ = some (.slice a M.length cap) := (hE.cell (p := ⟨b, 0, none⟩) (show b < W1.heap.size by omega)).trans HCB.out
    have hrr : wr.heap[w.heap.size]? = some (.cells zeroNd 47 (0, 0)) := (hE.block w.heap.size (by omega)).trans HR1.out
    have HE := Lib.hid hE
    have HRR := Lib.hid hrr
    by_cases hlt : k < M.length
    · have hMk : (nds M)[k]? = some M[k].2 := by unfold nds; rw [List.getElem?_map, List.getElem?_eq_getElem hlt]; rfl
      obtain ⟨bl, off, da, dc, aa, ac, ea, hSb, hc, hD, hA, _⟩ := HROWS.out.row hMk
      subst ea
      have hfit := (right_fit (HM.out.right M[k] (List.getElem_mem hlt))).1
      have hskip := after_skip HM.out s hlt
      have hhit := after_hit HM.out s hlt
      generalize hxx : M[k] = x at *
      obtain ⟨xk, n⟩ := x
      simp only at *
      have hEw := HE1.out.trans hE
      have hcw : ∀ j u, (ndC n (.slice da n.data.length dc) (.slice aa n.acl.length ac))[j]? = some u → wr.cell? ((⟨bl, off + k * 17, none⟩ : Addr).add j) = some u := fun j u hj => by
        rw [addr_add, hEw.cell (p := ⟨bl, off + k * 17 + j, none⟩) (HS.out bl hSb).1]
        exact hc j u hj
      have c0 : wr.cell? ⟨bl, off + k * 17, none⟩ = some (.string n.path) := (hEw.cell (p := ⟨bl, off + k * 17, none⟩) (HS.out bl hSb).1).trans (hc 0 _ rfl)
      have CO := Lib.hid (order_any n.path s wr hfit.path hs)
      have HC := Lib.hid hcw
      have HD := Lib.hid (((hD.cells fun b hb => (HS.out b hb).1)).ext hEw)
      have HA := Lib.hid (((hA.cells fun b hb => (HS.out b hb).1)).ext hEw)
      have HFIT := Lib.hid hfit
      have HB := Lib.hid (HS.out bl hSb).2
      clear hcw hc hD hA hfit hE hEw hrr
      by_cases hgt : 0 < ordL n.path.data.toList s.data.toList
      · have hf := HF.out.trans (hhit hgt)
        have HF2 := Lib.hid hf
        have e1 : decide (0 < ordL n.path.data.toList s.data.toList) = true := by simpa using hgt
        clear hskip hhit hf HF
        generalize ordL n.path.data.toList s.data.toList = od at *
        go_wp2_with fail
        refine CO.out.mono ?_
        rintro e W2 ⟨rfl, hE2⟩
        have hE2 : Ext wr W2 := hE2
        have hr2 := (hE2.block w.heap.size (Array.getElem?_eq_some_iff.1 HRR.out).1).trans HRR.out
        have hcr2 : W2.cell? ⟨b, 0, none⟩ = some (.slice (some ⟨bl, off, none⟩) M.length cap) := (hE2.cell (p := ⟨b, 0, none⟩) (World.block_lt_of_cell? _ _ hcr)).trans hcr
        have hcw2 : ∀ j u, (ndC n (.slice da n.data.length dc) (.slice aa n.acl.length ac))[j]? = some u → W2.cell? ((⟨bl, off + k * 17, none⟩ : Addr).add j) = some u := fun j u hj => by
          have h0 := HC.out j u hj
          exact (hE2.cell (World.block_lt_of_cell? _ _ h0)).trans h0
        have CC := Lib.hid (rclone_new n da aa dc ac W2 HFIT.out (HD.out.ext hE2) (HA.out.ext hE2))
        have HR2 := Lib.hid hr2
        have HE2 := Lib.hid ((HE1.out.trans HE.out).trans hE2)
        have HC2 := Lib.hid hcw2
        unfold ndC at HC2
        clear hE2 hr2 CO HC HD HA hcw2 c0 hcr HRR HE
        go_wp2_with (refine wpList_load_at rfl 47 (.tmp 36) rfl _ rfl _ _ HC2.out Tryz.underlying47 rfl sizeNd ?_)
        refine CC.out.mono ?_
        rintro e W3 ⟨v, rfl, hN, hE3⟩
        have hE3 : Ext W2 W3 := hE3
        have hr3 := (hE3.block w.heap.size (Array.getElem?_eq_some_iff.1 HR2.out).1).trans HR2.out
        obtain ⟨va, vc, vb, vd, rfl, hr4, hN4, hE4⟩ := getOut_store M s true n w W3 _ W2.heap.size (by have := (Array.getElem?_eq_some_iff.1 HR2.out).1; omega) v (HE2.out.trans hE3) hr3 hN
        have hfin : AfterOut M s w (.returned (.tuple #[.agg (ndC n (.slice va n.data.length vc) (.slice vb n.acl.length vd)), .bool true])) _ := ⟨_, by rw [HF2.out]; rfl, by rw [HF2.out]; exact hN4, hE4⟩
        have HR3 := Lib.hid hr3
        have HR4 := Lib.hid hr4
        have HFIN := Lib.hid hfin
        clear hE3 hr3 hr4 hN hN4 hE4 hfin CC HC2 hcr2
        go_wp2_with (refine wpList_store_row rfl 47 (.tmp 4) (.tmp 38) rfl w.heap.size _ rfl rfl 47 _ HR3.out sizeNd rfl (cells_node n va vb _ _ vc vd) ?_)
        refine bodyPost_ret (v := .tuple #[.agg (ndC n (.slice va n.data.length vc) (.slice vb n.acl.length vd)), .bool true]) ?_ rfl HFIN.out
        exact results_cell_row2 (p := 4) (q := 5) (ty := 47) rfl _ _ w.heap.size 47 _ (0, 0) _ _ rfl rfl HR4.out Tryz.underlying47 rfl sizeNd
      · have hf := HF.out.trans (hskip hgt)
        have HF2 := Lib.hid hf
        have e1 : decide (0 < ordL n.path.data.toList s.data.toList) = false := by simpa using hgt
        clear hskip hhit hf HF
        generalize ordL n.path.data.toList s.data.toList = od at *
        go_wp2_with fail
        refine CO.out.mono ?_
        rintro e W2 ⟨rfl, hE2⟩
        have HE2 := Lib.hid (HE.out.trans hE2)
        clear hE2 CO HC HD HA hcr c0
        go_wp2
        go_roundw
        case rel => exact ⟨k + 1, by omega, by go_num, HF2.out, HE2.out⟩
        case measure => simp [intOf]; omega
    · obtain rfl : k = M.length := by omega
      have hnone : afterN M s = none := by have := HF.out; rw [List.drop_length] at this; simpa using this
      have HS0 := Lib.hid (setRow_same wr w.heap.size zeroNd 47 hrr)
      have hfin : AfterOut M s w (.returned (.tuple #[.agg zeroNd, .bool false])) wr := ⟨_, by rw [hnone]; rfl, by rw [hnone]; exact zeroN_nds _ _, HE1.out.trans hE⟩
      have HFIN := Lib.hid hfin
      unfold zeroNd at HS0
      clear hfin hnone hE hrr HF HROWS
      go_wp2_with (refine wpList_store_row rfl 47 (.tmp 4) (.tmp 39) rfl w.heap.size _ rfl rfl 47 _ HRR.out sizeNd rfl zeroNd_one ?_; rw [HS0.out])
      refine bodyPost_ret (v := .tuple #[.agg zeroNd, .bool false]) ?_ rfl HFIN.out
      exact results_cell_row2 (p := 4) (q := 5) (ty := 47) rfl _ _ w.heap.size 47 _ (0, 0) _ _ rfl rfl HRR.out Tryz.underlying47 rfl sizeNd
end Go.Proofs.YtamolbegmkngdaaGreatDoor
namespace Go.Proofs.YtamolbegmkngdaaGreatDoor
open Go.RowKit Go.Sort
set_option maxHeartbeats 4000000
set_option maxRecDepth 100000

theorem rname_any (s : ByteArray) (w : World) (hv : vpath s = true) (hs : s.size ≤ 9223372036854775800) : Calls Tryz.prog 152 #[.string s] w fun e w' => e = .returned (.tuple #[.string (nameB s), .int .i64 0]) ∧ Ext w w' := by
  have C1 := rvalid_any s w (by omega)
  rw [hv] at C1
  have R : Hid (nameB s = s.extract (lastS s + 1).toNat s.size) := rfl
  have C1 := Lib.hid C1
  have C2 := fun w => rlast_any s w hv hs
  obtain ⟨i, e, hi, _, _⟩ := lastS_spec hv
  rw [e] at C2 R
  have C2 := Lib.hid C2
  clear hv e
  go_enter Tryz.func152, Tryz.ntmps152
  go_wp2_with fail
  refine C1.out.mono ?_
  rintro e w1 ⟨rfl, hb1⟩
  clear C1
  go_wp2_with fail
  refine (C2.out _).mono ?_
  rintro e w2 ⟨rfl, rfl⟩
  clear C2
  go_wp2
  go_ret2
  exact ⟨by rw [R.out]; rfl, hb1⟩

theorem kids_take (M : List (Key × Nd)) (s : ByteArray) (k : Nat) (hk : k < M.length) : kidsOf (M.take (k + 1)) s = kidsOf (M.take k) s ++ if childOf s M[k].2 = true then [(nameK M[k].2, Value.agg #[])] else [] := by
  unfold kidsOf
  rw [List.take_succ_eq_append_getElem hk, List.filter_append, List.map_append]
  congr 1
  by_cases h : childOf s M[k].2 = true
  · rw [if_pos h, List.filter_cons_of_pos (by simpa using h)]; rfl
  · rw [if_neg h, List.filter_cons_of_neg (by simpa using h)]; rfl

def KidsOut (M : List (Key × Nd)) (s : ByteArray) (w : World) (e : Ending) (w' : World) : Prop :=
  ∃ v, e = .returned v ∧ w'.ownsRow w.heap.size 9 1 v (kidsOf M s).length ((kidsOf M s).map fun x => encStr x.1) ∧ Ext w w'

theorem rkids_any (w : World) (b : Nat) (M : List (Key × Nd)) (hR : RT w b (nds M)) (hM : MOk M) (s : ByteArray) (hl : M.length * 16 ≤ 140737488355328) : Calls Tryz.prog 111 #[.pointer (some ⟨b, 0, none⟩), .string s] w (KidsOut M s w) := by
  obtain ⟨a, cap, vs, hb, hlc, hcm, hS, hrows, _⟩ := hR
  have hcb : w.cell? ⟨b, 0, none⟩ = some (.slice a (nds M).length cap) := cell_of_row _ _ _ _ _ _ hb
  have hbl := (Array.getElem?_eq_some_iff.1 hb).1
  rw [nds_length] at hcb
  have hl64 : M.length ≤ 9223372036854775807 := by omega
  have HROWS := Lib.hid hrows
  have HS := Lib.hid hS
  have HM := Lib.hid hM
  have HKL := Lib.hid (fun k => kids_length (M.take k) s)
  clear hb hrows hS hM hlc hcm
  go_enter Tryz.func111, Tryz.ntmps111
  go_wp2
  go_loopw [5, 6] (fun ov i wr => ∃ (k n : Nat), k ≤ M.length ∧ i = .int .i64 k ∧ Hid (n = (kidsOf (M.take k) s).length) ∧ n ≤ k ∧ wr.ownsRow w.heap.size 9 1 ov n ((kidsOf (M.take k) s).map fun x => encStr x.1) ∧ Ext w wr) (fun _ i _ => M.length - (intOf i).toNat)
  case atStart => exact ⟨0, 0, Nat.zero_le _, rfl, rfl, Nat.le_refl _, World.ownsRow_nil _ _ _ _, Ext.refl _⟩
  case round =>
    obtain ⟨k, q, hk, rfl, HN, hqk, hown, hE⟩ := hrel
    have hcr : wr.cell? ⟨b, 0, none⟩ = some (.slice a M.length cap) := (hE.cell (p := ⟨b, 0, none⟩) hbl).trans hcb
    by_cases hlt : k < M.length
    · have hMk : (nds M)[k]? = some M[k].2 := by unfold nds; rw [List.getElem?_map, List.getElem?_eq_getElem hlt]; rfl
      obtain ⟨bl, off, da, dc, aa, ac, ea, hSb, hc, _⟩ := HROWS.out.row hMk
      subst ea
      have hright := HM.out.right M[k] (List.getElem_mem hlt)
      have hst := kids_take M s k hlt
      have hfit := (right_fit hright).1
      have hv := right_vpath hright
      generalize M[k].2 = n at *
      have c0 : wr.cell? ⟨bl, off + k * 17, none⟩ = some (.string n.path) := (hE.cell (p := ⟨bl, off + k * 17, none⟩) (HS.out bl hSb).1).trans (hc 0 _ rfl)
      have hbS : bl ≠ b := (HS.out bl hSb).2
      have hp64 := hfit.path
      have hroot := root_iff hv
      have HE := Lib.hid hE
      have HOWN := Lib.hid hown
      clear hc hE hMk hown
      by_cases h1 : n.path.size = 1
      · have e2 : n.path.toList = [47] := by rw [ByteArray.toList_eq]; exact hroot.1 h1
        have e1 : (n.path.toList == [47]) = true := by simpa using e2
        have hch : childOf s n = false := by unfold childOf; simp [h1]
        rw [hch] at hst
        have HST := Lib.hid hst
        clear hst hch hroot hright
        go_wp2
        go_roundw
        case rel => exact ⟨k + 1, q, by omega, by go_num, by unfold Hid; rw [HST.out]; simpa using HN.out, by omega, by rw [HST.out]; simpa using HOWN.out, HE.out⟩
        case measure => simp [intOf]; omega
      · have e2 : ¬ n.path.toList = [47] := by rw [ByteArray.toList_eq]; exact fun h => h1 (hroot.2 h)
        have e1 : (n.path.toList == [47]) = false := by simpa using e2
        have CP := rparent_any n.path wr hp64
        rw [show parV n.path = .tuple #[.string (parentB n.path), .int .i64 0] by unfold parV; rw [if_pos ⟨hv, h1⟩]] at CP
        have CP := Lib.hid CP
        by_cases hps : parentB n.path = s
        · have hch : childOf s n = true := childOf_iff.2 ⟨h1, hps⟩
          rw [hch] at hst
          have HST := Lib.hid hst
          have p2 : (parentB n.path).toList = s.toList := by rw [hps]
          have p1 : ((parentB n.path).toList == s.toList) = true := by simpa using p2
          clear hst hch hroot hright
          go_wp2_with fail
          refine CP.out.mono ?_
          rintro e w2 ⟨rfl, hE2⟩
          have hE2 : Ext wr w2 := hE2
          have hz2 := hE2.size
          have hzr := HE.out.size
          have c2 : w2.cell? ⟨bl, off + k * 17, none⟩ = some (.string n.path) := (hE2.cell (p := ⟨bl, off + k * 17, none⟩) (World.block_lt_of_cell? _ _ c0)).trans c0
          have hcr2 : w2.cell? ⟨b, 0, none⟩ = some (.slice (some ⟨bl, off, none⟩) M.length cap) := (hE2.cell (p := ⟨b, 0, none⟩) (World.block_lt_of_cell? _ _ hcr)).trans hcr
          have CN := Lib.hid (rname_any n.path w2 hv hp64)
          have HE2 := Lib.hid (HE.out.trans hE2)
          have HO2 := Lib.hid (HOWN.out.kept (ext_grown hE2 none) (Classical.em _))
          clear hE2 CP c0 hcr hcb HOWN
          go_wp2_with fail
          refine CN.out.mono ?_
          rintro e w3 ⟨rfl, hE3⟩
          have hE3 : Ext w2 w3 := hE3
          have hz3 := hE3.size
          have hrow7 := HO2.out.kept (ext_grown hE3 none) (Classical.em _)
          have hrow8 := hrow7.alloc (.cells #[.string (nameB n.path)] 9)
          have hs1 : Cells (w3.alloc (.cells #[.string (nameB n.path)] 9)).heap.size (w3.alloc (.cells #[.string (nameB n.path)] 9)) (some ⟨w3.heap.size, 0, none⟩) [.string (nameB n.path)] := fun j u hj => by
            refine ⟨_, 0, rfl, by simp, ?_⟩
            rw [Nat.zero_add, cell_of_row _ _ _ _ _ _ (heap_alloc_new w3 _)]
            simpa using hj
          have hsrc : Src Tryz.prog 1 39 (.slice (some ⟨w3.heap.size, 0, none⟩) 1 1) 1 [.string (nameB n.path)] (w3.alloc (.cells #[.string (nameB n.path)] 9)) := hs1.src Tryz.underlying39 1 1 (by simp) (fun u hu => by simp at hu; subst hu; rfl)
          obtain ⟨i0, hi, hz0, hz1', hz2'⟩ := strInfo
          have hE8 : Ext w (w3.alloc (.cells #[.string (nameB n.path)] 9)) := (HE2.out.trans hE3).trans (Ext.alloc _ _)
          have HE8 := Lib.hid hE8
          have HO8 := Lib.hid hrow8
          clear CN hE3 hs1 hE8 hrow7 HO2 c2 hcr2 HE2 HE
          go_wp2_with (at_builtin; refine wpList_append_src _ rfl (.tmp 56) (.tmp 58) 39 39 rfl w.heap.size 9 i0 (.string ⟨#[]⟩) 1 16 Tryz.underlying39 hi hz0 hz1' hz2' rfl (by decide) _ q _ rfl hrow8 _ 1 _ rfl hsrc ?c1 ?c2 ?c3 ?_)
          case c1 => unfold maxLen; omega
          case c2 => omega
          case c3 => simp; omega
          intro v' w9 hown9 hg9 _ ho9
          have hE9 : Ext w w9 := HE8.out.trans' ⟨hg9.os, hg9.tape, hg9.output, hg9.size, fun i hi => hg9.block i (Nat.lt_of_lt_of_le hi HE8.out.size) (fun e => by
            have := (HO8.out.lt i e.symm).1
            omega)⟩
          have hown9' : w9.ownsRow w.heap.size 9 1 v' (q + 1) ((kidsOf (M.take (k + 1)) s).map fun x => encStr x.1) := by
            rw [HST.out]
            simpa [encStr, nameK] using hown9
          have hq9 : q + 1 = (kidsOf (M.take (k + 1)) s).length := by rw [HST.out, HN.out]; simp
          have HO9 := Lib.hid hown9'
          have HE9 := Lib.hid hE9
          have HQ9 := Lib.hid hq9
          clear hown9 hown9' hE9 hg9 ho9 hrow8 hsrc HO8 hq9
          go_wp2
          go_roundw
          case rel => exact ⟨k + 1, q + 1, by omega, by go_num, HQ9.out, by omega, HO9.out, HE9.out⟩
          case measure => simp [intOf]; omega
        · have hch : childOf s n = false := by
            cases h : childOf s n with
            | false => rfl
            | true => exact absurd (childOf_iff.1 h).2 hps
          rw [hch] at hst
          have HST := Lib.hid hst
          have p2 : ¬ (parentB n.path).toList = s.toList := fun h => hps (ba_ext (by rw [← ByteArray.toList_eq, ← ByteArray.toList_eq]; exact h))
          have p1 : ((parentB n.path).toList == s.toList) = false := by simpa using p2
          clear hst hch hroot hright
          go_wp2_with fail
          refine CP.out.mono ?_
          rintro e w2 ⟨rfl, hE2⟩
          have hE2 : Ext wr w2 := hE2
          have HE2 := Lib.hid (HE.out.trans hE2)
          have HO2 := Lib.hid (HOWN.out.kept (ext_grown hE2 none) (Classical.em _))
          clear hE2 CP c0 hcr hcb HOWN
          go_wp2
          go_roundw
          case rel => exact ⟨k + 1, q, by omega, by go_num, by unfold Hid; rw [HST.out]; simpa using HN.out, by omega, by rw [HST.out]; simpa using HO2.out, HE2.out⟩
          case measure => simp [intOf]; omega
    · obtain rfl : k = M.length := by omega
      rw [List.take_length] at hown HN
      have hfin : KidsOut M s w (.returned u5) wr := ⟨_, rfl, by rw [← HN.out]; exact hown, hE⟩
      have HFIN := Lib.hid hfin
      clear hfin hown hE hcb
      go_wp2
      go_ret
      exact HFIN.out
end Go.Proofs.YtamolbegmkngdaaGreatDoor
namespace Go.Proofs.YtamolbegmkngdaaGreatDoor
open Go.RowKit Go.Sort
set_option maxHeartbeats 4000000
set_option maxRecDepth 100000

theorem cver_eq (c k : Int) : wrap32 (wrap64 (wrap64 (2 * wrap64 c) - k) % 4294967296) = wrap32 (wrap32 (2 * c) - wrap32 k) := by
  unfold wrap32 wrap64
  omega

theorem rstof_any (n : Nd) (da aa : Option Addr) (dc ac : Nat) (k : Int) (w : World) (hf : Fit n) :
    Calls Tryz.prog 146 #[.agg (ndC n (.slice da n.data.length dc) (.slice aa n.acl.length ac)), .int .i64 k] w fun e w' => e = .returned (.agg (statC n k)) ∧ Ext w w' := by
  have hfd := hf.data
  obtain ⟨W1, hW1⟩ : ∃ W1, W1 = w.alloc (.cells (ndC n (.slice da n.data.length dc) (.slice aa n.acl.length ac)) 47) := ⟨_, rfl⟩
  have hE1 : Ext w W1 := by rw [hW1]; exact Ext.alloc _ _
  have hz1 : W1.heap.size = w.heap.size + 1 := by rw [hW1]; simp
  have hb1 : W1.heap[w.heap.size]? = some (.cells (ndC n (.slice da n.data.length dc) (.slice aa n.acl.length ac)) 47 (0, 0)) := by rw [hW1]; exact heap_alloc_new w _
  obtain ⟨W2, hW2⟩ : ∃ W2, W2 = W1.alloc (.cells zeroStat 93) := ⟨_, rfl⟩
  have hE2 : Ext W1 W2 := by rw [hW2]; exact Ext.alloc _ _
  have hz2 : W2.heap.size = w.heap.size + 1 + 1 := by rw [hW2]; simp [hz1]
  have hb2 := (hE2.block w.heap.size (by omega)).trans hb1
  have hs2 : W2.heap[w.heap.size + 1]? = some (.cells zeroStat 93 (0, 0)) := by rw [hW2, ← hz1]; exact heap_alloc_new W1 _
  have hx : Box W2 w.heap.size (ndC n (.slice da n.data.length dc) (.slice aa n.acl.length ac)) := fun j => cell_of_row _ _ _ _ _ _ hb2
  rw [hW2, hW1] at hx hs2
  unfold Box at hx
  unfold ndC zeroStat at hx hs2
  have HS2 := Lib.hid hs2
  clear hb1 hb2 hs2 hE1 hE2 hf hz1 hz2 hW2 hW1
  clear W2
  clear W1
  unfold ndC
  have hcv := cver_eq n.creates k
  have HCV := Lib.hid hcv
  clear hcv
  go_enter Tryz.func146, Tryz.ntmps146
  go_wp2
  refine bodyPost_ret (v := .agg (statC n k)) ?_ rfl ⟨rfl, (Ext.alloc _ _).trans (Ext.alloc _ _)⟩
  refine results_cell_row (p := 4) (ty := 93) rfl _ _ (w.heap.size + 1) 93 (statC n k) (0, 0) _ rfl ?_ Tryz.underlying93 rfl sizeStat
  have := heap_alloc_new (w.alloc (.cells (ndC n (.slice da n.data.length dc) (.slice aa n.acl.length ac)) 47)) (.cells (statC n k) 93)
  rw [World.size_alloc] at this
  unfold statC at this ⊢
  rw [← HCV.out] at this ⊢
  exact this

/-- A region's invariant: a row is stored by its operation k. -/
def StK (k : Nat) (W3 : World) (gs : Nat) (cs : Array Value) (d : Nat → Bool) (W : World) : Prop :=
  Chg (· = gs) W3 W ∧ W.heap[gs]? = some (.cells (if d k = true then cs else zeroStat) 93 (0, 0))
theorem StK.ext {k : Nat} {W3 : World} {gs : Nat} {cs : Array Value} {i : Nat} (hi : i ≠ k) (d d' : Nat → Bool) (w w' : World) (h : StK k W3 gs cs d w) (he : Ext w w') (hd : ∀ k, k ≠ i → d' k = d k) : StK k W3 gs cs d' w' := by
  obtain ⟨h1, h2⟩ := h
  refine ⟨h1.trans (Chg.of_ext (S := fun _ => False) he) (fun _ _ h => h.elim), ?_⟩
  rw [hd k (Ne.symm hi), he.block gs (Array.getElem?_eq_some_iff.1 h2).1]
  exact h2
def RstP (cs : Array Value) (b : Nat) (s : ByteArray) (k : Nat) (st : Array Value) : Nat → Value → Prop
  | 0, v => v = .agg cs
  | 1, v => v = .pointer (some ⟨b, 0, none⟩)
  | 2, v => v = .string s
  | 3, v => ∃ a c, v = .slice a k c
  | 4, v => v = .int .i64 k
  | 5, v => v = .agg st
  | 6, v => v = undef
  | _, v => v = .int .i64 0
theorem own_slice1 {w : World} {base n : Nat} {v : Value} {xs : List Value} {t : TypeId} (h : w.ownsRow base t 1 v n xs) : ∃ a c, v = .slice a n c := by
  rcases h.2 with ⟨h, h0⟩ | ⟨g, cap, cur, h, _⟩
  · exact ⟨none, 0, by rw [h, h0]⟩
  · exact ⟨_, cap, h⟩
theorem own_base {w : World} {base base' n m : Nat} {v : Value} {xs : List Value} {t : TypeId} (h : w.ownsRow base t m v n xs) (hb : base' ≤ base) : w.ownsRow base' t m v n xs :=
  ⟨h.1, h.2.imp id fun ⟨g, cap, cur, h1, h2, h3⟩ => ⟨g, cap, cur, h1, Nat.le_trans hb h2, h3⟩⟩

theorem rstat_any (w : World) (b : Nat) (M : List (Key × Nd)) (hR : RT w b (nds M)) (hM : MOk M) (s : ByteArray) (hs : s.size ≤ 9223372036854775800) (hl : M.length * 16 ≤ 140737488355328) :
    Calls Tryz.prog 89 #[.pointer (some ⟨b, 0, none⟩), .string s] w (StatOut M s w) := by
  obtain ⟨W0, hW0⟩ : ∃ W0, W0 = w.alloc (.cells zeroStat 93) := ⟨_, rfl⟩
  have hE0 : Ext w W0 := by rw [hW0]; exact Ext.alloc _ _
  have hz0 : W0.heap.size = w.heap.size + 1 := by rw [hW0]; simp
  have hr0 : W0.heap[w.heap.size]? = some (.cells zeroStat 93 (0, 0)) := by rw [hW0]; exact heap_alloc_new w _
  have C1 := rget_any W0 b M (hR.ext hE0) hM s hs
  have HW0 := Lib.hid hW0
  have HR := Lib.hid hR
  have HM := Lib.hid hM
  have hfit : Fit ((mget M s.data.toList).getD zeroN) := hM.fit s.data.toList
  unfold zeroStat at HW0
  clear hR hW0 hM
  go_enter Tryz.func89, Tryz.ntmps89
  go_wp2_with fail
  rw [← HW0.out]
  refine C1.mono ?_
  rintro e w1 ⟨v, rfl, hv, hE1⟩
  obtain ⟨da, dc, aa, ac, rfl, hD, hA⟩ := hv
  have hcase : (mget M s.data.toList).getD zeroN = (mget M s.data.toList).getD zeroN := rfl
  generalize hn : (mget M s.data.toList).getD zeroN = n at hD hA hfit ⊢
  clear hD hA hcase
  obtain ⟨W2, hW2⟩ : ∃ W2, W2 = w1.alloc (.cells (ndC n (.slice da n.data.length dc) (.slice aa n.acl.length ac)) 47) := ⟨_, rfl⟩
  have HSET := Lib.hid ((setRow_alloc w1 zeroNd (ndC n (.slice da n.data.length dc) (.slice aa n.acl.length ac)) 47).trans hW2.symm)
  have HNew := Lib.hid (heap_alloc_new w1 (.cells zeroNd 47))
  have hE2 : Ext w1 W2 := by rw [hW2]; exact Ext.alloc _ _
  have hb2 : W2.heap[w1.heap.size]? = some (.cells (ndC n (.slice da n.data.length dc) (.slice aa n.acl.length ac)) 47 (0, 0)) := by rw [hW2]; exact heap_alloc_new w1 _
  have hz1 := hE1.size
  have hz2 := hE2.size
  have hr2 := ((hE1.trans hE2).block w.heap.size (by omega)).trans hr0
  have hEw2 := (hE0.trans hE1).trans hE2
  unfold ndC at HSET
  unfold zeroNd at HSET HNew
  have HB2 := Lib.hid hb2
  have HR2 := Lib.hid hr2
  have HN := Lib.hid hn
  have HEW := Lib.hid hEw2
  have HFit := Lib.hid hfit
  clear C1 hW2 hE0 hE1 hE2 hb2 hr2 hEw2 hr0 hfit hn
  unfold ndC
  cases hg : mget M s.data.toList with
  | none =>
    have hfin : StatOut M s w (.returned (.tuple #[.agg zeroStat, .int .i64 70])) (W2.setRow w.heap.size zeroStat) := by
      refine ⟨by rw [hg]; rfl, HEW.out.trans' ⟨rfl, rfl, rfl, by simp, fun k hk => setRow_other _ _ _ _ (by omega)⟩⟩
    have hR4 := setRow_heap W2 w.heap.size _ zeroStat 93 (0, 0) HR2.out
    have HFIN := Lib.hid hfin
    have HR4 := Lib.hid hR4
    have HR2' := HR2.out
    unfold zeroStat at HR2'
    have HR3 := Lib.hid HR2'
    clear hfin hg hR4 HR2'
    go_wp2_with (first | (refine wpList_store_row rfl 47 (.tmp 6) (.tmp 12) rfl w1.heap.size _ rfl rfl 47 _ HNew.out sizeNd rfl (cells_node n da aa _ _ dc ac) ?_; rw [HSET.out]) | (refine wpList_store_row rfl 93 (.tmp 4) (.tmp 16) rfl w.heap.size _ rfl rfl 93 _ HR3.out sizeStat rfl zeroStat_one ?_))
    refine bodyPost_ret (v := .tuple #[.agg zeroStat, .int .i64 70]) ?_ rfl HFIN.out
    exact results_cell_row2 (p := 4) (q := 5) (ty := 93) rfl _ _ w.heap.size 93 _ (0, 0) _ _ rfl rfl HR4.out Tryz.underlying93 rfl sizeStat
  | some y =>
    have hny : n = y := by have := HN.out; rw [hg] at this; exact this.symm
    have HG := Lib.hid hg
    have hG0 : StK 6 W2 w.heap.size (statC n (kidsOf M s).length) (fun _ => false) W2.drew := by
      refine ⟨Chg.of_ext (Ext.drew _), ?_⟩
      simp only [Bool.false_eq_true, if_false]
      exact HR2.out
    have HG0 := Lib.hid hG0
    have hread : ∀ (d : Nat → Bool) (W : World), StK 6 W2 w.heap.size (statC n (kidsOf M s).length) d W → Ext w W ∧ W.heap[w1.heap.size]? = W2.heap[w1.heap.size]? := fun d W h =>
      ⟨HEW.out.trans' (h.1.below (fun k hk => by subst hk; exact Nat.le_refl _) (by have := HEW.out.size; omega)), h.1.same _ (Array.getElem?_eq_some_iff.1 HB2.out).1 (by omega)⟩
    have HRD := Lib.hid hread
    clear hg hG0 hread
    subst hny
    go_wp2_with (refine wpList_store_row rfl 47 (.tmp 6) (.tmp 12) rfl w1.heap.size _ rfl rfl 47 _ HNew.out sizeNd rfl (cells_node n da aa _ _ dc ac) ?_; rw [HSET.out])
    refine wp_region_P (by kernel_rfl) (region_state0 23 (StK 6 W2 w.heap.size (statC n (kidsOf M s).length)) HG0.out (RstP (ndC n (.slice da n.data.length dc) (.slice aa n.acl.length ac)) b s (kidsOf M s).length (statC n (kidsOf M s).length)) (by decide) rfl ?hnone ?duties ?rest)
    case hnone =>
      intro i o v h1 h2 h3
      match i, h1, h3 with
      | 6, _, h3 => exact h3
      | 0, h1, _ => cases h1; cases h2
      | 1, h1, _ => cases h1; cases h2
      | 2, h1, _ => cases h1; cases h2
      | 3, h1, _ => cases h1; cases h2
      | 4, h1, _ => cases h1; cases h2
      | 5, h1, _ => cases h1; cases h2
      | 7, h1, _ => cases h1; cases h2
      | i + 8, h1, _ => simp at h1
    case duties =>
      refine ⟨?_, ?_, ?_, ?_, ?_, ?_, ?_, ?_, trivial⟩
      · refine dutyS_ext (StK.ext (by decide)) fun d a w' hG hF hA => ?_
        have x1 := hF.slot 6 _ (by decide) rfl
        exact wp_value (ex_load_row rfl w1.heap.size x1 47 _ (0, 0) _ ((HRD.out d w' hG).2.trans HB2.out) Tryz.underlying47 rfl sizeNd) ⟨_, rfl, rfl, Ext.refl _⟩
      · refine dutyS_ext (StK.ext (by decide)) fun d a w' hG hF hA => ?_
        have x1 := hF.slot 0 _ (by decide) rfl
        exact wp_value (w' := w') (v := .pointer (some ⟨b, 0, none⟩)) (by simp only [execOp, x1]; simp [go_sem]) ⟨_, rfl, rfl, Ext.refl _⟩
      · refine dutyS_ext (StK.ext (by decide)) fun d a w' hG hF hA => ?_
        have x1 := hF.slot 1 _ (by decide) rfl
        exact wp_value (w' := w') (v := .string s) (by simp only [execOp, x1]; simp [go_sem]) ⟨_, rfl, rfl, Ext.refl _⟩
      · refine dutyS_ext (StK.ext (by decide)) fun d a w' hG hF hA => ?_
        have x1 : a.eval (.tmp 18) = _ := hA.slot 1 18 rfl rfl ⟨⟨1, .data⟩, by simp, rfl, rfl⟩
        have x2 : a.eval (.tmp 19) = _ := hA.slot 2 19 rfl rfl ⟨⟨2, .data⟩, by simp, rfl, rfl⟩
        refine wp_enter (ex_call rfl (enters_f Tryz.func111 (by kernel_rfl) rfl)) (by simp only [List.map_toArray, List.map_cons, List.map_nil, x1, x2]; exact rkids_any w' b M (HR.out.ext (HRD.out d w' hG).1) HM.out s hl) ?_
        rintro e w4 ⟨v, rfl, hv, h4⟩
        exact ⟨_, rfl, v, rfl, own_slice1 hv, h4⟩
      · refine dutyS_ext (StK.ext (by decide)) fun d a w' hG hF hA => ?_
        obtain ⟨ka, kc, x1⟩ : ∃ ka kc, a.eval (.tmp 20) = .slice ka (kidsOf M s).length kc := hA.slot 3 20 rfl rfl ⟨⟨3, .data⟩, by simp, rfl, rfl⟩
        exact wp_value (w' := w') (v := .int .i64 (kidsOf M s).length) (by simp only [execOp, resolve, invoke, builtin, Sem.run_bind, Sem.run_pure, Result.andThen_ok, List.map_toArray, List.map_cons, List.map_nil, x1]; simp [go_sem]) ⟨_, rfl, rfl, Ext.refl _⟩
      · refine dutyS_ext (StK.ext (by decide)) fun d a w' hG hF hA => ?_
        have x1 : a.eval (.tmp 17) = _ := hA.slot 0 17 rfl rfl ⟨⟨0, .data⟩, by simp, rfl, rfl⟩
        have x2 : a.eval (.tmp 21) = _ := hA.slot 4 21 rfl rfl ⟨⟨4, .data⟩, by simp, rfl, rfl⟩
        refine wp_enter (ex_call rfl (enters_f Tryz.func146 (by kernel_rfl) rfl)) (by simp only [List.map_toArray, List.map_cons, List.map_nil, x1, x2]; exact rstof_any n da aa dc ac (kidsOf M s).length w' HFit.out) ?_
        rintro e w4 ⟨rfl, h4⟩
        exact ⟨_, rfl, _, rfl, rfl, h4⟩
      · intro d a w' hdi _ _ hG hF hA
        have x1 := hF.slot 4 _ (by decide) rfl
        have x2 : a.eval (.tmp 22) = _ := hA.slot 5 22 rfl rfl ⟨⟨5, .data⟩, by simp, rfl, rfl⟩
        refine wp_skipped (ex_store_row 93 (.tmp 4) (.tmp 22) rfl w.heap.size _ x1 x2 93 _ hG.2 sizeStat (by split <;> rfl) (statC_one n _)) ⟨undef, rfl, rfl, ?_⟩
        refine ⟨hG.1.trans (Chg.set (S := (· = w.heap.size)) w.heap.size w' (statC n (kidsOf M s).length) rfl) (fun _ _ h => h), ?_⟩
        have e : ((fun k => d k || k == 6) 6) = true := by simp
        rw [if_pos e]
        exact setRow_heap w' w.heap.size _ _ _ _ hG.2
      · refine dutyS_ext (StK.ext (by decide)) fun d a w' hG hF hA => ?_
        exact wp_value (w' := w') (v := .int .i64 0) (by simp only [execOp]; simp [go_sem]) ⟨_, rfl, rfl, Ext.refl _⟩
    case rest =>
      intro us d W4 hdn hG4 hl8 hP
      have hl8' : us.length = 8 := by simpa using hl8
      have us8' := us8 us hl8'
      have q1 := us8'.choose_spec
      generalize us8'.choose = u0 at q1
      have q2 := q1.choose_spec
      generalize q1.choose = u1 at q2
      have q3 := q2.choose_spec
      generalize q2.choose = u2 at q3
      have q4 := q3.choose_spec
      generalize q3.choose = u3 at q4
      have q5 := q4.choose_spec
      generalize q4.choose = u4 at q5
      have q6 := q5.choose_spec
      generalize q5.choose = u5 at q6
      have q7 := q6.choose_spec
      generalize q6.choose = u6 at q7
      have q8 := q7.choose_spec
      generalize q7.choose = u7 at q8
      subst q8
      have e7 : u7 = .int .i64 0 := hP 7 u7 rfl
      subst e7
      have h9 := hdn 6 (by decide)
      obtain ⟨k1, k2⟩ := hG4
      rw [if_pos h9] at k2
      have hfin : StatOut M s w (.returned (.tuple #[.agg (statC n (kidsOf M s).length), .int .i64 0])) W4 :=
        ⟨by rw [HG.out]; rfl, HEW.out.trans' (k1.below (fun k hk => by subst hk; exact Nat.le_refl _) (by have := HEW.out.size; omega))⟩
      have HFIN := Lib.hid hfin
      have HK := Lib.hid k2
      clear hfin k1 k2 h9 hdn hP q1 q2 q3 q4 q5 q6 q7 us8' hl8 hl8'
      simp only [filled, List.zip_cons_cons, List.zip_nil_left, List.foldl_cons, List.foldl_nil, Act.put, List.setIfInBounds_toArray, List.set_cons_succ, List.set_cons_zero, Exit.inBlock, Exit.then]
      rename_i hK
      refine hK _ _ ?_
      clear hK
      go_wp2
      refine bodyPost_ret (v := .tuple #[.agg (statC n (kidsOf M s).length), .int .i64 0]) ?_ rfl HFIN.out
      exact results_cell_row2 (p := 4) (q := 5) (ty := 93) rfl _ _ w.heap.size 93 _ (0, 0) _ _ rfl rfl HK.out Tryz.underlying93 rfl sizeStat

theorem rchildren_any (w : World) (b : Nat) (M : List (Key × Nd)) (hR : RT w b (nds M)) (hM : MOk M) (s : ByteArray) (hs : s.size ≤ 9223372036854775800) (hl : M.length * 16 ≤ 140737488355328) :
    Calls Tryz.prog 90 #[.pointer (some ⟨b, 0, none⟩), .string s] w (ChildOut M s w) := by
  have C1 := Lib.hid (rget_any w b M hR hM s hs)
  have HR := Lib.hid hR
  have HM := Lib.hid hM
  clear hR hM
  go_enter Tryz.func90, Tryz.ntmps90
  go_wp2_with fail
  refine C1.out.mono ?_
  rintro e w1 ⟨v, rfl, hv, hE1⟩
  obtain ⟨da, dc, aa, ac, rfl, hD, hA⟩ := hv
  generalize hn : (mget M s.data.toList).getD zeroN = n at hD hA ⊢
  clear hD hA
  obtain ⟨W2, hW2⟩ : ∃ W2, W2 = w1.alloc (.cells (ndC n (.slice da n.data.length dc) (.slice aa n.acl.length ac)) 47) := ⟨_, rfl⟩
  have HSET := Lib.hid ((setRow_alloc w1 zeroNd (ndC n (.slice da n.data.length dc) (.slice aa n.acl.length ac)) 47).trans hW2.symm)
  have HNew := Lib.hid (heap_alloc_new w1 (.cells zeroNd 47))
  have hE2 : Ext w1 W2 := by rw [hW2]; exact Ext.alloc _ _
  have HEW := Lib.hid (hE1.trans hE2)
  unfold ndC at HSET
  unfold zeroNd at HSET HNew
  clear C1 hW2 hE1 hE2 hn
  unfold ndC
  cases hg : mget M s.data.toList with
  | none =>
    have HFIN : Hid (ChildOut M s w (.returned (.tuple #[.slice none 0 0, .int .i64 70])) W2) := ⟨_, by rw [hg]; rfl, HEW.out, by rw [hg]; rfl⟩
    clear hg
    go_wp2_with (refine wpList_store_row rfl 47 (.tmp 6) (.tmp 12) rfl w1.heap.size _ rfl rfl 47 _ HNew.out sizeNd rfl (cells_node n da aa _ _ dc ac) ?_; rw [HSET.out])
    go_ret2
    exact HFIN.out
  | some y =>
    have CK := Lib.hid (rkids_any W2 b M (HR.out.ext HEW.out) HM.out s hl)
    have HG := Lib.hid hg
    clear hg
    go_wp2_with (refine wpList_store_row rfl 47 (.tmp 6) (.tmp 12) rfl w1.heap.size _ rfl rfl 47 _ HNew.out sizeNd rfl (cells_node n da aa _ _ dc ac) ?_; rw [HSET.out])
    refine CK.out.mono ?_
    rintro e w3 ⟨v, rfl, hown, hE3⟩
    have HFIN : Hid (ChildOut M s w (.returned (.tuple #[v, .int .i64 0])) w3) := ⟨_, by rw [HG.out]; rfl, HEW.out.trans hE3, by
      rw [HG.out]
      simp only [Option.isSome_some, if_true]
      exact own_base hown HEW.out.size⟩
    clear CK hown hE3
    go_wp2
    go_ret2
    exact HFIN.out
end Go.Proofs.YtamolbegmkngdaaGreatDoor
