/- The walk of After: a range over the map of nodes, in an order that nobody knows. The walk of stat.Encode, where the node may be. The walk of the sum of bytes; a node's number. The walk of a node's number. The walk of the tree's number: a range over the tree's nodes. A nil tree: what is told of it. The walk of the law's Below: a range over the nodes under a path. -/
import Derived.Test.YtamolbegmkngdaaGreatDoorJQuotaTurns6
import Derived.Maps.RangeWalk
import Derived.Test.YtamolbegmkngdaaGreatDoorJQuotaTurns2
import Derived.Test.YtamolbegmkngdaaGreatDoorJQuotaTurns9
import Derived.Test.YtamolbegmkngdaaGreatDoorJQuotaTurns8
import Derived.Test.YtamolbegmkngdaaGreatDoorJQuotaTurns10
namespace Go.Proofs.YtamolbegmkngdaaGreatDoor
open Go.RowKit
set_option maxHeartbeats 2000000
set_option maxRecDepth 100000

section
variable {P : Program} {ops : Array Oper} {rest : List Oper} {o : Oper} {a : Act} {Q : Exit → Act → World → Prop}

/-- 'range m' over a map keyed by strings. -/
theorem wpList_range_s (w : World) (hg : o.guard = none) (x : Operand) (t : TypeId) (hop : o.op = Op.range t x) (kt e : TypeId) (hk : P.underlying kt = some .string) (ht : P.underlying t = some (.map kt e)) (b : Nat) (m : List (Key × Value))
    (hm : a.eval x = .map (some b)) (h : SMap P kt w b m)
    (hK : ∀ w', w'.ranges P kt Rv b w.heap.size m.length (kvD m) (Maps.has (kvD m)) (Maps.size (kvD m)) → w.grownBy w' none → w'.heap.size = w.heap.size + 1 → wpList P ops Q rest (a.put o.dst (.pointer (some ⟨w.heap.size, 0, none⟩))) w') :
    wpList P ops Q (o :: rest) a w :=
  wpList_range_own w hg x t hop kt e (Maps.string_keyed hk) ht Rv b _ _ hm h hK

/-- The step of a range over a map keyed by strings. -/
theorem wpList_next_s (w : World) (hg : o.guard = none) (it : Operand) (hop : o.op = Op.next it false) (kt : TypeId) (hk : P.underlying kt = some .string) (b r n : Nat) (m : List (Key × Value)) (left : Lit → Bool) (cnt : Nat)
    (hit : a.eval it = .pointer (some ⟨r, 0, none⟩)) (h : w.ranges P kt Rv b r n (kvD m) left cnt)
    (hDone : (∀ kl, left kl = false) → wpList P ops Q rest (a.put o.dst (.tuple #[.bool false])) w)
    (hMore : ∀ (s : ByteArray) (v : Value) (w' : World) (cnt' : Nat), s.size ≤ maxLen → mget m s.data.toList = some v → w'.ranges P kt Rv b r n (kvD m) (fun z => left z && !z.sameKey (.string s.data.toList)) cnt' → cnt' < cnt →
      w.grownBy w' (some r) → w'.heap.size = w.heap.size → (Instr.entry (.pointer (some ⟨r, 0, none⟩))).run P w' = .ok (.tuple #[.string s, v]) w' → wpList P ops Q rest (a.put o.dst (.tuple #[.bool true, .string s, v])) w') :
    wpList P ops Q (o :: rest) a w :=
  wpList_next_ranges w hg it hop kt (Maps.string_keyed hk) Rv Value.string (id : Value → Value) (fun key kl hkey => by
      simp only [keyOf, hk, mapKey] at hkey
      cases key <;> simp at hkey
      exact ⟨_, rfl⟩) (fun v y _ => ⟨v, rfl⟩) b r n (kvD m) left cnt hit h (fun _ => hDone) fun s v kl y w' cnt' hkey _ hv hat hrg hlt hgr hsz hen => by
    have hkl : kl = .string s.data.toList ∧ s.size ≤ maxLen := by
      simp only [keyOf, hk, mapKey] at hkey
      split at hkey
      · rename_i hs; exact ⟨(Option.some.inj hkey).symm, hs⟩
      · cases hkey
    obtain ⟨rfl, hs⟩ := hkl
    simp only [Rv, id, Option.some.injEq] at hv
    subst hv
    refine hMore s v w' cnt' hs ?_ hrg hlt hgr hsz hen
    have h1 := hat (.held (.bool true))
    have h2 := hat (.held (.bool false))
    rw [kvD_at] at h1 h2
    simp only [DataW.held.injEq] at h1 h2
    cases hq : mget m s.data.toList with
    | some u => rw [hq] at h1; exact congrArg some h1
    | none => rw [hq] at h1 h2; simp at h1 h2; rw [← h1] at h2; cases h2
end

/-- The first behind a text. -/
def afterN (M : List (Key × Nd)) (s : ByteArray) : Option (Key × Nd) := M.find? fun x => bytesBefore s.data.toList x.1

/-- What the rounds of the range have found. -/
structure Aft (M : List (Key × Nd)) (s : Key) (left : Lit → Bool) (best : ByteArray) (found : Bool) : Prop where
  there : found = true → (∃ n, (best.data.toList, n) ∈ M) ∧ bytesBefore s best.data.toList = true
  no : found = false → best = ⟨#[]⟩
  le : ∀ x ∈ M, left (.string x.1) = false → bytesBefore s x.1 = true → found = true ∧ bytesBefore x.1 best.data.toList = false

theorem Aft.step {M : List (Key × Nd)} {s : Key} {left : Lit → Bool} {best : ByteArray} {found : Bool} (h : Aft M s left best found) (p : ByteArray) {n : Nd} (hp : (p.data.toList, n) ∈ M) :
    Aft M s (fun z => left z && !z.sameKey (.string p.data.toList)) (if bytesBefore s p.data.toList = true ∧ (found = false ∨ bytesBefore p.data.toList best.data.toList = true) then p else best)
      (if bytesBefore s p.data.toList = true ∧ (found = false ∨ bytesBefore p.data.toList best.data.toList = true) then true else found) := by
  have hsame : ∀ k : Key, (Lit.string k).sameKey (.string p.data.toList) = (k == p.data.toList) := fun k => rfl
  have tr : ∀ a b c : Key, bytesBefore a b = true → bytesBefore b c = true → bytesBefore a c = true := fun a b c => WideShapes.bytes_trans a b c
  split
  · rename_i hc
    refine ⟨fun _ => ⟨⟨n, hp⟩, hc.1⟩, fun e => (by cases e), fun x hx hl hs => ⟨rfl, ?_⟩⟩
    simp only [hsame, Bool.and_eq_false_iff, Bool.not_eq_false'] at hl
    rcases hl with hl | hl
    · obtain ⟨h1, h2⟩ := h.le x hx hl hs
      rcases hc.2 with h3 | h3
      · rw [h1] at h3; cases h3
      · cases h4 : bytesBefore x.1 p.data.toList with
        | false => rfl
        | true => rw [tr _ _ _ h4 h3] at h2; cases h2
    · have : x.1 = p.data.toList := by simpa using hl
      rw [this, WideAt.bytes_irrefl]
  · rename_i hc
    refine ⟨h.there, h.no, fun x hx hl hs => ?_⟩
    simp only [hsame, Bool.and_eq_false_iff, Bool.not_eq_false'] at hl
    rcases hl with hl | hl
    · exact h.le x hx hl hs
    · have e : x.1 = p.data.toList := by simpa using hl
      rw [e] at hs ⊢
      cases hf : found with
      | false => exact absurd ⟨hs, .inl hf⟩ hc
      | true =>
        refine ⟨rfl, ?_⟩
        cases h4 : bytesBefore p.data.toList best.data.toList with
        | false => rfl
        | true => exact absurd ⟨hs, .inr h4⟩ hc

theorem Aft.done {M : List (Key × Nd)} (hM : MOk M) {s : ByteArray} {left : Lit → Bool} {best : ByteArray} {found : Bool} (h : Aft M s.data.toList left best found) (hl : ∀ kl, left kl = false) :
    (afterN M s).isSome = found ∧ (mget M best.data.toList).getD zeroN = ((afterN M s).map (·.2)).getD zeroN := by
  unfold afterN
  cases hf : M.find? fun x => bytesBefore s.data.toList x.1 with
  | none =>
    have hno := List.find?_eq_none.1 hf
    cases found with
    | true =>
      obtain ⟨⟨n, hn⟩, hs⟩ := h.there rfl
      exact absurd hs (hno _ hn)
    | false =>
      refine ⟨rfl, ?_⟩
      rw [h.no rfl]
      rw [mget_none_of fun x hx => ?_]
      · rfl
      · intro e
        have h1 := (vpath_facts (right_vpath (hM.right x hx))).1
        have h2 := hM.key x hx
        rw [e] at h2
        have h3 : x.2.path.data.toList = [] := h2.symm
        have h4 : x.2.path.size = 0 := by rw [← size_list, h3]; rfl
        omega
  | some y =>
    have hy := List.find?_some hf
    have hm := List.mem_of_find?_eq_some hf
    obtain ⟨h1, h2⟩ := h.le y hm (hl _) (by simpa using hy)
    subst h1
    refine ⟨rfl, ?_⟩
    obtain ⟨⟨n, hn⟩, hs⟩ := h.there rfl
    have hb : best.data.toList = y.1 := by
      by_cases e : best.data.toList = y.1
      · exact e
      · exfalso
        rcases WideAt.bytes_total _ _ e with h3 | h3
        · have hp := List.find?_eq_some_iff_append.1 hf
          obtain ⟨_, l1, l2, e1, h4⟩ := hp
          have hso := hM.sorted
          rw [e1] at hn hso
          rcases List.mem_append.1 hn with h5 | h5
          · have := h4 _ h5
            rw [hs] at this; cases this
          · rcases List.mem_cons.1 h5 with h6 | h6
            · exact e (by rw [← h6])
            · have h7 := (List.pairwise_append.1 hso).2.1
              have h8 := (List.pairwise_cons.1 h7).1 _ h6
              have h9 := WideShapes.bytes_trans _ _ _ h3 h8
              rw [WideAt.bytes_irrefl] at h9; cases h9
        · rw [h3] at h2; cases h2
    rw [hb, mget_of_mem hM.sorted (show (y.1, y.2) ∈ M from hm)]
    rfl

theorem less_before : ∀ a b : List UInt8, Op.bytesLess a b = bytesBefore a b
  | [], [] => rfl
  | [], _ :: _ => rfl
  | _ :: _, [] => rfl
  | a :: x, b :: y => by simp only [Op.bytesLess, bytesBefore, less_before x y]

def AfterOut (M : List (Key × Nd)) (s : ByteArray) (w : World) (e : Ending) (w' : World) : Prop :=
  ∃ v, e = .returned (.tuple #[v, .bool (afterN M s).isSome]) ∧ NdS (fun b => w.heap.size ≤ b ∧ b < w'.heap.size) w' v (((afterN M s).map (·.2)).getD zeroN) ∧ Ext w w'

theorem after_any (S : Nat → Prop) (w : World) (bt : Nat) (M : List (Key × Nd)) (N : Nat) (hT : TreeAt S w bt M N) (s : ByteArray) : Calls Tryz.prog 59 #[.pointer (some ⟨bt, 0, none⟩), .string s] w (AfterOut M s w) := by
  obtain ⟨W1, hW1⟩ : ∃ W1, W1 = w.alloc (.cells zeroNd 47) := ⟨_, rfl⟩
  have hE1 : Ext w W1 := by rw [hW1]; exact Ext.alloc _ _
  have hz1 : W1.heap.size = w.heap.size + 1 := by rw [hW1]; simp
  have hr1 : W1.heap[w.heap.size]? = some (.cells zeroNd 47 (0, 0)) := by rw [hW1]; exact heap_alloc_new w _
  have hT1 := hT.ext hE1
  have hok := hT.ok
  obtain ⟨bn, bk, K, hd, hNd, hKd⟩ := hT1
  have hx := TreeAt.box hd
  obtain ⟨mm, hm, hr⟩ := hNd.ex
  have HT := Lib.hid hT
  have HE1 := Lib.hid hE1
  have HR1 := Lib.hid hr1
  have HD := Lib.hid hd
  have HND := Lib.hid hNd
  have HM := hm
  have HR := Lib.hid hr
  unfold Box treeC at hx
  have hx' := hx
  rw [hW1] at hx' HM
  unfold zeroNd at hx' HM hW1
  have HW1 := Lib.hid hW1
  clear hT hE1 hr1 hd hNd hKd hm hr hW1 hx
  go_enter Tryz.func59, Tryz.ntmps59
  go_wp2_with (at_range; refine wpList_range_s _ rfl _ 115 rfl 9 47 strT Tryz.underlying115 bn mm rfl HM ?_; intro w0 hrg0 hg0 hs0)
  go_frame
  rw [← HW1.out] at hrg0 hg0 hs0
  rw [show (w.alloc (.cells #[.string ⟨#[]⟩, .slice none 0 0, .slice none 0 0, .int .i64 0, .int .i64 0, .int .i64 0, .int .i64 0, .int .i64 0, .int .i64 0, .int .i64 0, .int .i64 0, .int .i32 0, .int .i32 0, .int .i32 0, .bool false, .int .i64 0, .int .i64 0] 47)) = W1 from HW1.out.symm]
  rw [hz1] at hrg0 ⊢
  clear hx' HM
  have hbl : bn < w.heap.size := HT.out.bound _ (by have := HD.out.sn; exact this)
  have hEr : Ext W1 w0 := ⟨hg0.os, hg0.tape, hg0.output, hg0.size, fun k hk => hg0.block k hk (by simp)⟩
  have hA0 : Aft M s.data.toList (Maps.has (kvD mm)) ⟨#[]⟩ false := ⟨fun h => (by cases h), fun _ => rfl, fun x hx hl _ => by
    exfalso
    rw [kvD_has] at hl
    rcases HR.out.get x.1 with ⟨h1, _⟩ | ⟨y, v, _, h2, _⟩
    · exact mget_none h1 x hx rfl
    · rw [h2] at hl; cases hl⟩
  go_loopw [6, 7] (fun b f wr => ∃ (left : Lit → Bool) (cnt : Nat) (best : ByteArray) (found : Bool), b = .string best ∧ f = .bool found ∧ wr.ranges Tryz.prog 9 Rv bn (w.heap.size + 1) mm.length (kvD mm) left cnt ∧ Aft M s.data.toList left best found ∧ Ext W1 wr) (fun _ _ wr => wr.rangeLeft bn (w.heap.size + 1))
  case atStart => exact ⟨_, _, _, _, rfl, rfl, hrg0, hA0, hEr⟩
  case round =>
    obtain ⟨left, cnt, best, found, rfl, rfl, hrg, hA, hE⟩ := hrel
    go_wp2_with (at_next; refine wpList_next_s _ rfl _ rfl 9 strT bn (w.heap.size + 1) _ mm left cnt rfl hrg ?_ ?_)
    · intro hl0
      obtain ⟨hd1, hd2⟩ := hA.done hok hl0
      have hbnd := HD.out.bound
      have hbs : best.size ≤ maxLen := by
        cases hf : found with
        | false => rw [hA.no hf]; unfold maxLen; decide
        | true =>
          obtain ⟨⟨n, hn⟩, _⟩ := hA.there hf
          have h1 := hok.key _ hn
          have h2 := (vpath_facts (right_vpath (hok.right _ hn))).2.1
          unfold keyN at h1
          rw [← size_list] at h2
          have h3 : best.data.toList.length ≤ 4096 := by
            have h1' : best.data.toList = n.path.data.toList := h1
            rw [h1']; exact h2
          rw [size_list] at h3
          unfold maxLen; omega
      have hNd2 : NodesAt S wr bn M N := HND.out.keep (hE.block bn (by omega)) (fun _ h => h) (fun b o u hb hu => (hE.cell (p := ⟨b, o, none⟩) (hbnd b hb)).trans hu) (Nat.le_refl _)
      have hx : Box wr bt (treeC bn bk) := fun j => cell_of_row _ _ _ _ _ _ ((hE.block bt (hbnd _ HD.out.st)).trans HD.out.blk)
      obtain ⟨v, hv, _, hq2⟩ := hNd2.look' best hbs
      have hfit := hok.fit best.data.toList
      rw [hd2] at hv hfit
      generalize hn : ((afterN M s).map (·.2)).getD zeroN = n at *
      obtain ⟨da, dc, aa, ac, rfl, hDd, hAa⟩ := hv
      have hbndr : ∀ k, S k → k < wr.heap.size := fun k hk => Nat.lt_of_lt_of_le (hbnd k hk) hE.size
      have C := Lib.hid (sclone_nd n da aa dc ac wr hfit (hDd.cells hbndr) (hAa.cells hbndr))
      have HEW := Lib.hid (HE1.out.trans hE)
      have HRr := Lib.hid ((hE.block w.heap.size (by omega)).trans HR1.out)
      have HN := Lib.hid hn
      have HDN := Lib.hid hd1
      have hzr := hE.size
      unfold Box treeC at hx
      unfold ndC at hq2 C
      unfold zeroNd at HRr
      clear hrg hA hE hNd2 hDd hAa hbndr hfit hd1 hd2 hn hrg0 hg0 hs0 hEr hA0 hbnd hbs HT HE1 HR1 HD HND HR HW1
      go_wp2_with fail
      refine C.out.mono ?_
      rintro e w3 ⟨v3, rfl, hN3, hb3⟩
      have hE3 : Ext wr w3 := hb3
      obtain ⟨va, vc, vb, vd, rfl, h1, h2⟩ := hN3
      have HR3 := Lib.hid ((hE3.block w.heap.size (by omega)).trans HRr.out)
      have hz3 := hE3.size
      have hEw : Ext w w3 := HEW.out.trans hE3
      clear C hb3 hx hq2
      go_wp2_with (refine wpList_store_row rfl 47 (.tmp 4) (.tmp 40) rfl w.heap.size _ rfl rfl 47 _ HR3.out sizeNd rfl (cells_node n va vb _ _ vc vd) ?_)
      obtain ⟨cs, hcs⟩ : ∃ cs, cs = ndC n (.slice va n.data.length vc) (.slice vb n.acl.length vd) := ⟨_, rfl⟩
      have hR4 := setRow_heap w3 w.heap.size _ cs 47 (0, 0) HR3.out
      have hs4 : (w3.setRow w.heap.size cs).heap.size = w3.heap.size := by simp [World.setRow]
      have hb4 : Ext w (w3.setRow w.heap.size cs) := hEw.trans' ⟨rfl, rfl, rfl, by rw [hs4]; exact Nat.le_refl _, fun k hk => setRow_other _ _ _ _ (by omega)⟩
      have hk : ∀ (b o : Nat) u, (wr.heap.size ≤ b ∧ b < w3.heap.size) → w3.cell? ⟨b, o, none⟩ = some u → (w3.setRow w.heap.size cs).cell? ⟨b, o, none⟩ = some u := fun b o u hb hu =>
        (World.cell?_of_block (setRow_other _ _ _ _ (show b ≠ w.heap.size by have := hb.1; omega))).trans hu
      have c1 := h1.imp (S' := fun b => w.heap.size ≤ b ∧ b < (w3.setRow w.heap.size cs).heap.size) (fun b hb => ⟨by omega, by omega⟩) hk
      have c2 := h2.imp (S' := fun b => w.heap.size ≤ b ∧ b < (w3.setRow w.heap.size cs).heap.size) (fun b hb => ⟨by omega, by omega⟩) hk
      have hsz17 : (Tryz.prog.info? 47).map (·.size) = some cs.size := by rw [hcs]; exact sizeNd
      have hfin : AfterOut M s w (.returned (.tuple #[.agg cs, .bool found])) (w3.setRow w.heap.size cs) :=
        ⟨_, by rw [HDN.out], by rw [HN.out]; exact ⟨va, vc, vb, vd, by rw [hcs], c1, c2⟩, hb4⟩
      rw [hcs] at hfin hR4 hsz17
      refine bodyPost_ret (v := .tuple #[.agg (ndC n (.slice va n.data.length vc) (.slice vb n.acl.length vd)), .bool found]) ?_ rfl hfin
      exact results_cell_row2 (p := 4) (q := 5) (ty := 47) rfl _ _ w.heap.size 47 _ (0, 0) _ _ rfl rfl hR4 Tryz.underlying47 rfl hsz17
    · intro p v w1 cnt1 hps hmp hrg1 hlt hg1 hs1 hen
      obtain ⟨n, hmem⟩ : ∃ n, (p.data.toList, n) ∈ M := by
        rcases HR.out.get p.data.toList with ⟨_, h2⟩ | ⟨y, u, h1, _, _⟩
        · rw [h2] at hmp; cases hmp
        · exact ⟨y, mget_some_mem h1⟩
      have hA1 := hA.step p hmem
      have hEn : Ext W1 w1 := hE.trans' ⟨hg1.os, hg1.tape, hg1.output, hg1.size, fun k hk => hg1.block k (Nat.lt_of_lt_of_le hk hE.size) (fun e => by have := Option.some.inj e; omega)⟩
      have HA1 := Lib.hid hA1
      have HRG1 := Lib.hid hrg1
      have HRG := Lib.hid hrg
      have HEN := Lib.hid hEn
      have lt_b : ∀ a b : ByteArray, Op.bytesLess a.toList b.toList = bytesBefore a.data.toList b.data.toList := fun a b => by rw [less_before, Lib.toList_data, Lib.toList_data]
      clear hA hrg hrg1 hg1 hs1 hEr hA0 hrg0 hg0 hs0 hmem hmp hA1 hE hEn HT HE1 HR1 HD HND HR HW1
      cases hgt : bytesBefore s.data.toList p.data.toList with
      | false =>
        have hA2 := HA1.out
        rw [if_neg (by rw [hgt]; simp), if_neg (by rw [hgt]; simp)] at hA2
        have HA2 := Lib.hid hA2
        clear hA2 HA1
        cases hlp : bytesBefore p.data.toList s.data.toList with
        | true =>
          have f1 : Op.bytesLess p.toList s.toList = true := by rw [lt_b]; exact hlp
          clear hgt hlp lt_b
          go_wp2
          go_roundw
          case rel => exact ⟨_, _, _, _, rfl, rfl, HRG1.out, HA2.out, HEN.out⟩
          case measure => rw [HRG1.out.left_eq, HRG.out.left_eq]; exact hlt
        | false =>
          have hep : p = s := by
            by_cases e : p.data.toList = s.data.toList
            · exact ba_ext e
            · rcases WideAt.bytes_total _ _ e with h | h
              · rw [hlp] at h; cases h
              · rw [hgt] at h; cases h
          have f1 : Op.bytesLess p.toList s.toList = false := by rw [lt_b]; exact hlp
          have f2 : (p.toList == s.toList) = true := by rw [hep]; simp
          have f3 : p.toList = s.toList := by rw [hep]
          clear hgt hlp lt_b hep
          go_wp2
          go_roundw
          case rel => exact ⟨_, _, _, _, rfl, rfl, HRG1.out, HA2.out, HEN.out⟩
          case measure => rw [HRG1.out.left_eq, HRG.out.left_eq]; exact hlt
      | true =>
        have hlp : bytesBefore p.data.toList s.data.toList = false := by
          cases hq : bytesBefore p.data.toList s.data.toList with
          | false => rfl
          | true => have h3 := WideShapes.bytes_trans _ _ _ hgt hq; rw [WideAt.bytes_irrefl] at h3; cases h3
        have hne : p.toList ≠ s.toList := fun e => by
          rw [Lib.toList_data, Lib.toList_data] at e
          rw [e, WideAt.bytes_irrefl] at hgt; cases hgt
        have f1 : Op.bytesLess p.toList s.toList = false := by rw [lt_b]; exact hlp
        have f2 : (p.toList == s.toList) = false := by simpa using hne
        have f3 : decide (p.toList = s.toList) = false := by simpa using hne
        cases hf : found with
        | false =>
          have hA2 := HA1.out
          rw [if_pos ⟨hgt, .inl hf⟩, if_pos ⟨hgt, .inl hf⟩] at hA2
          have HA2 := Lib.hid hA2
          clear hA2 HA1 hgt hlp lt_b
          go_wp2
          go_roundw
          case rel => exact ⟨_, _, _, _, rfl, rfl, HRG1.out, HA2.out, HEN.out⟩
          case measure => rw [HRG1.out.left_eq, HRG.out.left_eq]; exact hlt
        | true =>
          cases hpb : bytesBefore p.data.toList best.data.toList with
          | true =>
            have f4 : Op.bytesLess p.toList best.toList = true := by rw [lt_b]; exact hpb
            have hA2 := HA1.out
            rw [if_pos ⟨hgt, .inr hpb⟩, if_pos ⟨hgt, .inr hpb⟩] at hA2
            have HA2 := Lib.hid hA2
            clear hA2 HA1 hgt hlp lt_b hpb
            go_wp2
            go_roundw
            case rel => exact ⟨_, _, _, _, rfl, rfl, HRG1.out, HA2.out, HEN.out⟩
            case measure => rw [HRG1.out.left_eq, HRG.out.left_eq]; exact hlt
          | false =>
            have f4 : Op.bytesLess p.toList best.toList = false := by rw [lt_b]; exact hpb
            have hA2 := HA1.out
            rw [if_neg (by rw [hf, hpb]; simp), if_neg (by rw [hf, hpb]; simp), hf] at hA2
            have HA2 := Lib.hid hA2
            clear hA2 HA1 hgt hlp lt_b hpb
            go_wp2
            go_roundw
            case rel => exact ⟨_, _, _, _, rfl, rfl, HRG1.out, HA2.out, HEN.out⟩
            case measure => rw [HRG1.out.left_eq, HRG.out.left_eq]; exact hlt
end Go.Proofs.YtamolbegmkngdaaGreatDoor
namespace Go.Proofs.YtamolbegmkngdaaGreatDoor
open Go.RowKit
set_option maxHeartbeats 4000000
set_option maxRecDepth 100000

theorem Cells.away' {B bb : Nat} {w : World} {a : Option Addr} {xs : List Value} {l : List UInt8} (hw : Wr B w bb l) (h : Cells B w a xs) : Away bb w a xs := Cells.away hw h

theorem encode_yes (n : Nd) (da aa : Option Addr) (dc ac : Nat) (w : World) (hf : Fit n) (hT : Tabs w) (hD : Cells w.heap.size w da (n.data.map u8v)) (hA : Cells w.heap.size w aa (acCs n.acl)) (hr : rightN n = 0) :
    Calls Tryz.prog 138 #[.agg (ndC n (.slice da n.data.length dc) (.slice aa n.acl.length ac))] w (EncOut n w) := by
  have hrs := right_sizes n hr
  have hs1 := hrs.1
  have hs2 := hrs.2.1
  have hs3 := hrs.2.2.1
  have HS4 := Lib.hid hrs.2.2.2
  clear hrs
  have hbox := Box.alloc w (ndC n (.slice da n.data.length dc) (.slice aa n.acl.length ac)) 47
  have hb0 : Below w.heap.size w (w.alloc (.cells (ndC n (.slice da n.data.length dc) (.slice aa n.acl.length ac)) 47)) := (Below.refl _ _).alloc (Nat.le_refl _) _
  have hD0 := hD.below hb0
  have hA0 := hA.below hb0
  have hT0 := hT.below hb0 hT.size
  have CR := right_any n da aa dc ac (w.alloc (.cells (ndC n (.slice da n.data.length dc) (.slice aa n.acl.length ac)) 47)) hf hT0 (hA0.mono (by simp))
  rw [hr] at CR
  have hh := heap_alloc_new w (.cells (ndC n (.slice da n.data.length dc) (.slice aa n.acl.length ac)) 47)
  have HR := Lib.hid hr
  have hne : (rightN n != 0) = false := by simp [hr]
  clear hD hA hT0 hr hne
  unfold ndC at hbox hb0 hD0 hA0 CR hh ⊢
  have HH := Lib.hid hh
  clear hh
  go_enter Tryz.func138, Tryz.ntmps138
  go_wp2_with (refine wpList_load_row rfl 47 (.tmp 1) rfl w.heap.size rfl 47 _ (0, 0) _ HH.out Tryz.underlying47 rfl sizeNd ?_)
  refine CR.mono ?_
  rintro e w1 ⟨rfl, hb1⟩
  have hsz1 : w.heap.size < w1.heap.size := by have := hb1.size; simp at this; omega
  have hx1 := hbox.below hb1 (by simp)
  have hb : Below w.heap.size w w1 := hb0.trans (hb1.mono (by simp))
  have hD1 := (hD0.below (hb1.mono (by simp)))
  have hA1 := (hA0.below (hb1.mono (by simp)))
  clear CR hbox hb0 hb1 hD0 hA0 HH
  have hw2 := Wr.empty w1
  have hb2 : Below w1.heap.size w1 (w1.alloc (.cells #[.slice none 0 0] 222)) := (Below.refl _ _).alloc (Nat.le_refl _) _
  have hx2 := hx1.below hb2 hsz1
  have hD2 := (hD1.mono (Nat.le_of_lt hsz1)).below hb2
  have hA2 := (hA1.mono (Nat.le_of_lt hsz1)).below hb2
  have hbw2 : Below w.heap.size w (w1.alloc (.cells #[.slice none 0 0] 222)) := hb.trans (hb2.mono (Nat.le_of_lt hsz1))
  clear hx1 hD1 hA1 hb hb2
  have hq := hx2
  unfold Box at hq
  go_wp2_with fail
  have HB := Lib.hid hsz1
  generalize w1.alloc (.cells #[.slice none 0 0] 222) = w2 at hw2 hx2 hD2 hA2 hbw2 hq ⊢
  generalize w1.heap.size = B at hw2 hD2 hA2 HB hsz1 ⊢
  refine (text_any B B [] n.path w2 hw2 (by omega) (by simp; omega)).mono ?_
  rintro e w3 ⟨rfl, k1, k2, k3⟩
  clear hq
  have hx3 := hx2.below k2 HB.out
  have hq := hx3
  unfold Box at hq
  go_wp2_with fail
  refine (buffer_any B B _ da _ dc n.data w3 k1 (Cells.away k1 (hD2.below k2)) rfl (by omega) (by simp [be_length]; omega)).mono ?_
  rintro e w4 ⟨rfl, m1, m2, m3⟩
  have hbw4 := k2.trans m2
  clear hq k1 k3 hx3 m3
  have hx4 := hx2.below hbw4 HB.out
  have hq := hx4
  unfold Box at hq
  go_wp2_with fail
  refine (list_any B B _ aa ac n.acl w4 m1 (hA2.below hbw4) hs3 HS4.out (by simp [be_length]; omega)).mono ?_
  rintro e w5 ⟨rfl, n1, n2, n3⟩
  have hbw5 := hbw4.trans n2
  clear hq m1 n3 hx4 k2 m2 hbw4 n2
  obtain ⟨l5, hl5, he5, n1⟩ : Exists fun l5 => l5.length ≤ 2000000 ∧ Hid (l5 = txt n.path ++ (be n.data.length 4 ++ n.data) ++ (be n.acl.length 4 ++ acBs n.acl)) ∧ Wr B w5 B l5 := by
    refine ⟨_, ?_, rfl, by simpa [txt, List.append_assoc] using n1⟩
    have := acBs_le n.acl HS4.out n.acl.length (Nat.le_refl _)
    rw [List.take_length] at this
    simp [txt_length, be_length]; omega
  have hx5 := hx2.below hbw5 HB.out
  have hq := hx5
  unfold Box at hq
  go_wp2_with fail
  refine (steps_any w.heap.size w5).mono ?_
  rintro e w6 ⟨g1, g2, rfl, p1, p2, p3, p4, p5⟩
  have hB5 : B ≤ w5.heap.size := Nat.le_of_lt n1.size
  have hw6 := n1.below (fun g _ hg => p1.block g hg)
  have hG1 := AwayBox.fresh n1 p1 p2 p4
  have hG2 := AwayBox.fresh n1 p1 p3 p5
  have hbw6 := hbw5.trans (p1.mono hB5)
  clear hq hx5 hbw5 n1 p1 p2 p3 p4 p5 hB5
  go_wp2
  go_loopw [37] (fun i wr => ∃ k : Nat, k ≤ 8 ∧ i = .int .i64 k ∧ Wr B wr B (l5 ++ longsB ((longsN n).take k)) ∧ Below B w6 wr ∧ Keeps B w6 wr) (fun i _ => 8 - (intOf i).toNat)
  case atStart => exact ⟨0, by omega, rfl, by simpa [longsB] using hw6, Below.refl _ _, Keeps.refl _ _⟩
  case round =>
    obtain ⟨k, hk, rfl, q1, q2, q3⟩ := hrel
    by_cases hlt : k < 8
    · obtain ⟨x, x1, x2⟩ := longs_get n k hlt
      have c1 : wr.cell? ⟨g1, k, none⟩ = some (.pointer (some ⟨w.heap.size, 3 + k, none⟩)) := ((hG1.keeps q3).2.2 k).trans (ptrs8_get w.heap.size k hlt)
      have c2 : wr.cell? ⟨w.heap.size, 3 + k, none⟩ = some (.int .i64 x) := ((hx2.below (hbw6.trans q2) HB.out) (3 + k)).trans (x2 _ _)
      have htk : Hid (longsB ((longsN n).take (k + 1)) = longsB ((longsN n).take k) ++ be (IntKind.u64.wrap x) 8) := by
        have hl : k < (longsN n).length := hlt
        unfold Hid
        rw [longsB_take _ k hl]
        rw [List.getElem?_eq_getElem hl] at x1
        rw [Option.some.inj x1]
      clear x1 x2
      go_wp2_with fail
      refine (long_any B B _ x wr q1 (by simp [longsB_length]; omega)).mono ?_
      rintro e w' ⟨rfl, r1, r2, r3⟩
      rw [List.append_assoc, ← htk.out] at r1
      have hB' := q2.trans r2
      have hK' := q3.trans r3
      clear c1 c2 q1 q2 q3 r2 r3
      go_wp2
      go_roundw
      case rel => exact ⟨k + 1, by omega, by go_num, r1, hB', hK'⟩
      case measure => simp [intOf]; omega
    · obtain rfl : k = 8 := by omega
      have q1 : Wr B wr B (l5 ++ longsB (longsN n)) := q1
      have hG2' := hG2.keeps q3
      have hbw7 := hbw6.trans q2
      clear q2 q3 hG1 hG2 hw6 hbw6
      obtain ⟨wo, rfl⟩ : ∃ wo : World, wo = wr := ⟨_, rfl⟩
      rw [show ((8 : Nat) : Int) = 8 from rfl]
      go_wp2
      go_loopw [49] (fun i wr => ∃ k : Nat, k ≤ 3 ∧ i = .int .i64 k ∧ Wr B wr B (l5 ++ longsB (longsN n) ++ intsB ((intsN n).take k)) ∧ Below B wo wr ∧ Keeps B wo wr) (fun i _ => 3 - (intOf i).toNat)
      case atStart => exact ⟨0, by omega, rfl, by simpa [intsB] using q1, Below.refl _ _, Keeps.refl _ _⟩
      case round =>
        obtain ⟨k, hk, rfl, s1, s2, s3⟩ := hrel
        by_cases hlt : k < 3
        · obtain ⟨x, x1, x2⟩ := ints_get n k hlt
          have c1 : wr.cell? ⟨g2, k, none⟩ = some (.pointer (some ⟨w.heap.size, 11 + k, none⟩)) := ((hG2'.keeps s3).2.2 k).trans (ptrs3_get w.heap.size k hlt)
          have c2 : wr.cell? ⟨w.heap.size, 11 + k, none⟩ = some (.int .i32 x) := ((hx2.below (hbw7.trans s2) HB.out) (11 + k)).trans (x2 _ _)
          have htk : Hid (intsB ((intsN n).take (k + 1)) = intsB ((intsN n).take k) ++ be (x % 4294967296) 4) := by
            have hl : k < (intsN n).length := hlt
            unfold Hid
            rw [intsB_take _ k hl]
            rw [List.getElem?_eq_getElem hl] at x1
            rw [Option.some.inj x1]
          have hll : (longsB (longsN n)).length = 64 := by rw [longsB_length]; rfl
          clear x1 x2
          go_wp2_with fail
          refine (int_any B B _ x wr s1 (by simp [intsB_length]; omega)).mono ?_
          rintro e w' ⟨rfl, r1, r2, r3⟩
          rw [List.append_assoc, ← htk.out] at r1
          have hB' := s2.trans r2
          have hK' := s3.trans r3
          clear c1 c2 s1 s2 s3 r2 r3
          go_wp2
          go_roundw
          case rel => exact ⟨k + 1, by omega, by go_num, r1, hB', hK'⟩
          case measure => simp [intOf]; omega
        · obtain rfl : k = 3 := by omega
          have s1 : Wr B wr B (l5 ++ longsB (longsN n) ++ intsB (intsN n)) := s1
          have hbw8 := hbw7.trans s2
          have hx8 := hx2.below hbw8 HB.out
          have hq := hx8
          have hl1 : (longsB (longsN n)).length = 64 := by rw [longsB_length]; rfl
          have hl2 : (intsB (intsN n)).length = 12 := by rw [intsB_length]; rfl
          have HL1 := Lib.hid hl1
          have HL2 := Lib.hid hl2
          clear s2 s3 hbw7 hG2' hl1 hl2
          unfold Box at hq
          go_wp2_with fail
          refine (bool_any B B _ n.has wr s1 (by have := HL1.out; have := HL2.out; simp; omega)).mono ?_
          rintro e w9 ⟨rfl, a1, a2, a3⟩
          have hbw9 := hbw8.trans a2
          have hx9 := hx2.below hbw9 HB.out
          clear hq hx8 s1 hbw8 a2 a3
          have hq := hx9
          unfold Box at hq
          go_wp2_with fail
          refine (long_any B B _ n.count w9 a1 (by have := HL1.out; have := HL2.out; simp; omega)).mono ?_
          rintro e w10 ⟨rfl, b1, b2, b3⟩
          have hbw10 := hbw9.trans b2
          have hx10 := hx2.below hbw10 HB.out
          clear hq hx9 a1 hbw9 b2 b3
          have hq := hx10
          unfold Box at hq
          go_wp2_with fail
          refine (long_any B B _ n.bytes w10 b1 (by have := HL1.out; have := HL2.out; simp [be_length]; omega)).mono ?_
          rintro e w11 ⟨rfl, d1, d2, d3⟩
          have hbw11 := hbw10.trans d2
          clear hq hx10 b1 hbw10 d2 d3
          go_wp2_with fail
          refine (bytes_any B B _ w11 d1 (by have := HL1.out; have := HL2.out; simp [be_length]; omega)).mono ?_
          rintro e w12 ⟨a', c', rfl, f1, f2⟩
          have hfin : Below w.heap.size w w12 := hbw2.trans ((hbw11.mono (Nat.le_of_lt HB.out)).trans (f2.mono (by have := hbw11.size; have := hw2.size; have := HB.out; omega)))
          have he : Hid (l5 ++ longsB (longsN n) ++ intsB (intsN n) ++ [if n.has then 1 else 0] ++ be (IntKind.u64.wrap n.count) 8 ++ be (IntKind.u64.wrap n.bytes) 8 = encN n) := by
            unfold Hid encN; rw [he5.out]
          rw [he.out] at f1 d1 ⊢
          clear hbw11 f2 d1
          go_wp2
          go_ret2
          exact ⟨hfin, .inr ⟨HR.out, a', c', rfl, f1⟩⟩

theorem encode_any (n : Nd) (da aa : Option Addr) (dc ac : Nat) (w : World) (hf : Fit n) (hT : Tabs w) (hD : Cells w.heap.size w da (n.data.map u8v)) (hA : Cells w.heap.size w aa (acCs n.acl)) :
    Calls Tryz.prog 138 #[.agg (ndC n (.slice da n.data.length dc) (.slice aa n.acl.length ac))] w (EncOut n w) := by
  by_cases hr : rightN n = 0
  · exact encode_yes n da aa dc ac w hf hT hD hA hr
  · exact encode_no n da aa dc ac w hf hT hA hr
end Go.Proofs.YtamolbegmkngdaaGreatDoor
namespace Go.Proofs.YtamolbegmkngdaaGreatDoor
open Go.RowKit
set_option maxHeartbeats 2000000
set_option maxRecDepth 100000

def fnvStep (h : Int) (c : UInt8) : Int := IntKind.u64.wrap (bits .xor .u64 h (IntKind.u64.wrap c.toNat) * 1099511628211)
def fnv0 : Int := 14695981039346656037
def fnv (l : List UInt8) : Int := l.foldl fnvStep fnv0
theorem fnv_take (l : List UInt8) (k : Nat) (h : k < l.length) : fnv (l.take (k + 1)) = fnvStep (fnv (l.take k)) l[k] := by
  unfold fnv; rw [List.take_succ_eq_append_getElem h, List.foldl_append]; rfl

theorem byteCell {B : Nat} {w : World} {a : Option Addr} {l : List UInt8} (h : Cells B w a (l.map u8v)) (k : Nat) (hk : k < l.length) : ∃ b off, a = some ⟨b, off, none⟩ ∧ b < B ∧ w.cell? ⟨b, off + k, none⟩ = some (.int .u8 l[k].toNat) := by
  obtain ⟨b, off, h1, h2, h3⟩ := h k (u8v l[k]) (by simp [List.getElem?_eq_getElem hk])
  exact ⟨b, off, h1, h2, h3⟩

theorem sum_any (a : Option Addr) (c : Nat) (l : List UInt8) (w : World) (hc : Cells w.heap.size w a (l.map u8v)) (hl : l.length ≤ 9223372036854775800) :
    Calls Tryz.prog 80 #[.slice a l.length c] w fun e w' => e = .returned (.int .u64 (fnv l)) ∧ w = w' := by
  go_enter Tryz.func80, Tryz.ntmps80
  go_wp2
  go_loop [3, 8] (fun h i => ∃ k : Nat, k ≤ l.length ∧ i = .int .i64 k ∧ h = .int .u64 (fnv (l.take k))) (fun _ i => l.length - (intOf i).toNat)
  case atStart => exact ⟨0, Nat.zero_le _, rfl, rfl⟩
  case round =>
    obtain ⟨k, hk, rfl, rfl⟩ := hrel
    by_cases hlt : k < l.length
    · obtain ⟨b, off, rfl, hb, c0⟩ := byteCell hc k hlt
      have H := Lib.hid (fnv_take l k hlt)
      generalize fnv (l.take k) = h0 at *
      go_wp2
      go_round
      case rel => exact ⟨k + 1, by omega, by go_num, by rw [H.out]; rfl⟩
      case measure => simp [intOf]; omega
    · obtain rfl : k = l.length := by omega
      rw [List.take_length]
      clear hc
      go_wp2
      go_ret
      exact ⟨rfl, rfl⟩

/-- A node's number. -/
def nodeN (n : Nd) : Int := if rightN n = 0 then fnv (encN n) else 0
def NodeOut (n : Nd) (w : World) (e : Ending) (w' : World) : Prop := e = .returned (.int .u64 (nodeN n)) ∧ Below w.heap.size w w'

theorem encN_length (n : Nd) (hr : rightN n = 0) : (encN n).length ≤ 2000000 := by
  have hrs := right_sizes n hr
  have h1 := acBs_le n.acl hrs.2.2.2 n.acl.length (Nat.le_refl _)
  rw [List.take_length] at h1
  have e1 : (longsN n).length = 8 := rfl
  have e2 : (intsN n).length = 3 := rfl
  simp only [encN, List.length_append, txt_length, be_length, longsB_length, intsB_length, e1, e2, List.length_cons, List.length_nil]
  omega
end Go.Proofs.YtamolbegmkngdaaGreatDoor
namespace Go.Proofs.YtamolbegmkngdaaGreatDoor
open Go.RowKit
set_option maxHeartbeats 2000000
set_option maxRecDepth 100000

theorem node_any (n : Nd) (da aa : Option Addr) (dc ac : Nat) (w : World) (hf : Fit n) (hT : Tabs w) (hD : Cells w.heap.size w da (n.data.map u8v)) (hA : Cells w.heap.size w aa (acCs n.acl)) :
    Calls Tryz.prog 77 #[.agg (ndC n (.slice da n.data.length dc) (.slice aa n.acl.length ac))] w (NodeOut n w) := by
  have hb0 : Below w.heap.size w (w.alloc (.cells (ndC n (.slice da n.data.length dc) (.slice aa n.acl.length ac)) 47)) := (Below.refl _ _).alloc (Nat.le_refl _) _
  have CR := encode_any n da aa dc ac (w.alloc (.cells (ndC n (.slice da n.data.length dc) (.slice aa n.acl.length ac)) 47)) hf (hT.below hb0 hT.size) ((hD.below hb0).mono (by simp)) ((hA.below hb0).mono (by simp))
  have hh := heap_alloc_new w (.cells (ndC n (.slice da n.data.length dc) (.slice aa n.acl.length ac)) 47)
  unfold ndC at hb0 CR hh ⊢
  have HH := Lib.hid hh
  have CR := Lib.hid CR
  clear hh hD hA hT
  by_cases hr : rightN n = 0
  · have HL := Lib.hid (encN_length n hr)
    have HN : Hid (nodeN n = fnv (encN n)) := by unfold Hid nodeN; rw [if_pos hr]
    have HR := Lib.hid hr
    clear hr
    go_enter Tryz.func77, Tryz.ntmps77
    go_wp2_with (refine wpList_load_row rfl 47 (.tmp 1) rfl w.heap.size rfl 47 _ (0, 0) _ HH.out Tryz.underlying47 rfl sizeNd ?_)
    refine CR.out.mono ?_
    rintro e w1 ⟨hb1, h⟩
    rcases h with ⟨h, _⟩ | ⟨_, a, c, rfl, hcs⟩
    · exact absurd HR.out h
    have hb : Below w.heap.size w w1 := hb0.trans (hb1.mono (by simp))
    clear CR hb0 hb1 HH
    go_wp2_with fail
    refine (sum_any a c (encN n) w1 hcs (by have := HL.out; omega)).mono ?_
    rintro e w2 ⟨rfl, rfl⟩
    clear hcs
    go_wp2
    go_ret
    exact ⟨by rw [HN.out]; rfl, hb⟩
  · have hne : (rightN n != 0) = true := by simpa using hr
    have HN : Hid (nodeN n = 0) := by unfold Hid nodeN; rw [if_neg hr]
    have HR := Lib.hid hr
    clear hr
    go_enter Tryz.func77, Tryz.ntmps77
    go_wp2_with (refine wpList_load_row rfl 47 (.tmp 1) rfl w.heap.size rfl 47 _ (0, 0) _ HH.out Tryz.underlying47 rfl sizeNd ?_)
    refine CR.out.mono ?_
    rintro e w1 ⟨hb1, h⟩
    have h := h.resolve_right (fun h => HR.out h.1)
    obtain ⟨_, rfl⟩ := h
    have hb : Below w.heap.size w w1 := hb0.trans (hb1.mono (by simp))
    clear CR hb0 hb1 HH
    go_wp2
    go_ret
    exact ⟨by rw [HN.out]; rfl, hb⟩
end Go.Proofs.YtamolbegmkngdaaGreatDoor
namespace Go.Proofs.YtamolbegmkngdaaGreatDoor
open Go.RowKit Go.Sort
set_option maxHeartbeats 4000000
set_option maxRecDepth 100000
attribute [local go_sem] Oper.semAt_some

/-- The numbers of nodes, added to and taken off a number, round. -/
def addN (s : Int) (ns : List Nd) : Int := ns.foldl (fun s n => IntKind.u64.wrap (s + nodeN n)) s
def subN (s : Int) (ns : List Nd) : Int := ns.foldl (fun s n => IntKind.u64.wrap (s - nodeN n)) s
theorem addN_snoc (s : Int) (ns : List Nd) (n : Nd) : addN s (ns ++ [n]) = IntKind.u64.wrap (addN s ns + nodeN n) := by unfold addN; rw [List.foldl_append]; rfl
theorem subN_snoc (s : Int) (ns : List Nd) (n : Nd) : subN s (ns ++ [n]) = IntKind.u64.wrap (subN s ns - nodeN n) := by unfold subN; rw [List.foldl_append]; rfl
theorem infoU64 : (Tryz.prog.info? 30).map (·.size) = some 1 := by kernel_rfl

structure OfI (w W7 : World) (pre : List (Value × Nd)) (W : World) : Prop where
  box : W.heap[w.heap.size]? = some (.cells #[.int .u64 (addN 0 (pre.map (·.2)))] 30 (0, 0))
  size : W7.heap.size ≤ W.heap.size
  keep : Below w.heap.size w W

theorem MOk.keys_le {M : List (Key × Nd)} (hok : MOk M) : ∀ k ∈ M.map (·.1), k.length ≤ maxLen := fun k hk => by
  obtain ⟨x, hx, rfl⟩ := List.mem_map.1 hk
  rw [hok.key x hx]
  unfold keyN
  rw [size_list]
  have := (vpath_facts (right_vpath (hok.right x hx))).2.1
  unfold maxLen; omega

theorem dof_any (S : Nat → Prop) (w : World) (bt : Nat) (M : List (Key × Nd)) (N : Nat) (hT : TreeAt S w bt M N) (hTb : Tabs w) (hks : M.length * 168 ≤ 140737488355328) :
    Calls Tryz.prog 14 #[.pointer (some ⟨bt, 0, none⟩)] w fun e w' => e = .returned (.int .u64 (addN 0 (M.map (·.2)))) ∧ Ext w w' := by
  obtain ⟨W0, hW0⟩ : ∃ W0, W0 = w.alloc (.cells #[.int .u64 0] 30) := ⟨_, rfl⟩
  have hE0 : Ext w W0 := by rw [hW0]; exact Ext.alloc _ _
  have hz0 : W0.heap.size = w.heap.size + 1 := by rw [hW0]; simp
  have hg0 : W0.heap[w.heap.size]? = some (.cells #[.int .u64 0] 30 (0, 0)) := by rw [hW0]; exact heap_alloc_new w _
  have C1 := Lib.hid (tall_any bt W0)
  have HW0 := Lib.hid hW0
  have HT := Lib.hid hT
  have HE0 := Lib.hid hE0
  have HG0 := Lib.hid hg0
  have HTb := Lib.hid hTb
  have hzT := hTb.size
  clear hT hW0 hE0 hg0 hTb
  refine (callsIn_wide (n := 6)).1 (callsIn_of_wp_marks Tryz.func14 rfl trivial ?_)
  simp only [Tryz.ntmps14, List.size_toArray, List.length_cons, List.length_nil, Nat.reduceAdd, Nat.reduceSub, Array.replicate_succ, Array.replicate_zero, List.push_toArray, List.append_toArray, List.nil_append, List.cons_append]
  gi_wp2_with fail
  rw [← HW0.out]
  refine ⟨trivial, (callsIn_wide.2 C1.out).mono ?_⟩
  rintro e W1 ⟨bw, btb, rfl, hcw, hct, hE1⟩
  have hz1 := hE1.size
  have hE01 := HE0.out.trans hE1
  have hT1 := HT.out.ext hE01
  have hbd := HT.out.bound
  have hok := HT.out.ok
  have hs1 : ∀ k, S k → k ≠ w.heap.size := fun k hk => by have := hbd k hk; omega
  have hg1 := (hE1.block _ (Array.getElem?_eq_some_iff.1 HG0.out).1).trans HG0.out
  have TT := told_tells (fun _ k => k ≠ w.heap.size) S W1 bt M N hT1 hs1 bw btb 122 #[.pointer (some ⟨bt, 0, none⟩)] #[] hcw hct (enters_of Tryz.func122 (by kernel_rfl) rfl) (M.map (·.1))
    (fun W hW => by simpa using tsorted_any S W bt M N (hT1.ext hW) (by omega)) (by simpa using hks) hok.keys_le
  rw [nodesOf_vals hok.sorted] at TT
  have hI0 : OfI w W1 [] W1 := ⟨hg1, Nat.le_refl _, hE01⟩
  have hnn := told_not_nil #[.pointer (some ⟨bw, 0, none⟩), .pointer (some ⟨btb, 0, none⟩)] W1
  have TT := Lib.hid TT
  have HI0 := Lib.hid hI0
  have HTB1 := Lib.hid (HTb.out.below hE01 hzT)
  have HOK := Lib.hid hok
  clear hcw hct hE1 hE01 hT1 hs1 hg1 hI0 C1 hok
  gi_wp2
  refine wpIn_tells_nd (Safe := fun _ k => k ≠ w.heap.size) (by omega) (gf := 159) (lb := #[.pointer (some ⟨bw, 0, none⟩), .pointer (some ⟨btb, 0, none⟩)]) rfl (enters_of Tryz.func159 (by kernel_rfl) rfl) TT.out (show 7 < 13 by decide) (show 4 < 13 by decide) (by decide)
    (OfI w W1) (fun _ _ _ => False) (fun _ _ _ _ h => h) ?hI ?hIx HI0.out ?body ?done ?stop
  case hI =>
    rintro pre X Y ⟨h1, h2, h3⟩ hTn
    exact ⟨⟨hTn.cells h1, Nat.le_trans h2 hTn.size, h3.trans (hTn.below (by omega) h3.size)⟩, fun k hk => by omega⟩
  case hIx => exact fun _ _ _ _ h _ => h
  case stop => exact fun _ _ _ _ _ _ h => h.elim
  case body =>
    rintro l pre n da dc aa ac bl W hl0 hrec ⟨rest, hSp⟩ ⟨hbx, hsz, hEw⟩ hG hbl
    simp only [List.setIfInBounds_toArray, List.set_cons_succ, List.set_cons_zero]
    have hs : W.cell? ⟨w.heap.size, 0, none⟩ = some (.int .u64 (addN 0 (pre.map (·.2)))) := cell_of_row _ _ _ _ _ _ hbx
    obtain ⟨hDW, hAW⟩ := nds_parts hG
    have hDW := hDW.cells fun b hb => hb.2
    have hAW := hAW.cells fun b hb => hb.2
    have hTW : Tabs W := HTb.out.below hEw hzT
    have hmem : n ∈ M.map (·.2) := by
      have : n ∈ (pre ++ [(Value.agg (ndC n (.slice da n.data.length dc) (.slice aa n.acl.length ac)), n)]).map (·.2) ++ rest := by simp
      rw [hSp] at this; exact this
    obtain ⟨x, hx, hxe⟩ := List.mem_map.1 hmem
    have hfit : Fit n := by rw [← hxe]; exact (right_fit (HOK.out.right x hx)).1
    have HS := Lib.hid (addN_snoc 0 (pre.map (·.2)) n)
    have HBX := Lib.hid hbx
    have HEW := Lib.hid hEw
    clear hbx hEw hmem hx hSp
    generalize addN 0 (pre.map (·.2)) = s at *
    refine wpIn_block ?_
    refine wpIn_region_P l (by kernel_rfl) (by rfl) (region_store_vals 13 [.int .u64 s, .agg (ndC n (.slice da n.data.length dc) (.slice aa n.acl.length ac)), .int .u64 (nodeN n), .int .u64 (IntKind.u64.wrap (s + nodeN n))] 4 _ rfl rfl rfl rfl rfl (by decide) rfl ?duties ?last)
    case duties =>
      refine ⟨?_, ?_, ?_, ?_, trivial⟩
      · refine duty_free rfl fun a w' hE hF hA => ?_
        have x1 := hF.slot 3 _ (by decide) rfl
        exact wp_value (ex_cell rfl _ _ x1 ((hE.cell (World.block_lt_of_cell? _ _ hs)).trans hs) rfl Tryz.underlying30) ⟨_, rfl, rfl, Ext.refl _⟩
      · refine duty_free rfl fun a w' hE hF hA => ?_
        have x1 := hF.slot 4 _ (by decide) rfl
        exact wp_value (ex_load_row rfl _ x1 47 _ (0, 0) _ ((hE.block _ (Array.getElem?_eq_some_iff.1 hbl).1).trans hbl) Tryz.underlying47 rfl sizeNd) ⟨_, rfl, rfl, Ext.refl _⟩
      · refine duty_free rfl fun a w' hE hF hA => ?_
        have x1 := hA.val 1 9 rfl rfl ⟨⟨1, .data⟩, by simp, rfl, rfl⟩ rfl
        refine wp_enter (ex_call rfl (enters_f Tryz.func77 (by kernel_rfl) rfl)) (by simp only [List.map_toArray, List.map_cons, List.map_nil, x1]; exact node_any n da aa dc ac w' hfit (hTW.below hE hTW.size) (hDW.ext hE) (hAW.ext hE)) ?_
        rintro e w4 ⟨rfl, hb⟩
        exact ⟨_, rfl, _, rfl, rfl, hb⟩
      · refine duty_free rfl fun a w' hE hF hA => ?_
        have x1 := hA.val 0 8 rfl rfl ⟨⟨0, .data⟩, by simp, rfl, rfl⟩ rfl
        have x2 := hA.val 2 10 rfl rfl ⟨⟨2, .data⟩, by simp, rfl, rfl⟩ rfl
        exact wp_value (w' := w') (v := .int .u64 (IntKind.u64.wrap (s + nodeN n))) (by simp only [execOp, x1, x2]; simp [go_sem]) ⟨_, rfl, rfl, Ext.refl _⟩
    case last =>
      intro W8 hE8
      have hbx8 := (hE8.block _ (Array.getElem?_eq_some_iff.1 HBX.out).1).trans HBX.out
      simp only [filled, List.take_succ_cons, List.take_zero, List.zip_cons_cons, List.zip_nil_left, List.foldl_cons, List.foldl_nil, Act.put, List.setIfInBounds_toArray, List.set_cons_succ, List.set_cons_zero]
      refine wp_skipped (w' := W8.setRow w.heap.size #[.int .u64 (IntKind.u64.wrap (s + nodeN n))]) (by refine run_store_one 30 (.tmp 3) (.tmp 11) ?_ w.heap.size (.int .u64 (IntKind.u64.wrap (s + nodeN n))) ?_ ?_ ?_ 30 (.int .u64 s) hbx8 infoU64 <;> rfl) ?_
      have hKp := (Kp.ext (B := W1.heap.size) (ga := w.heap.size) hE8).trans (Kp.set W8 #[.int .u64 (IntKind.u64.wrap (s + nodeN n))] (by omega))
      have hB8 : Below w.heap.size w (W8.setRow w.heap.size #[.int .u64 (IntKind.u64.wrap (s + nodeN n))]) := (HEW.out.trans (hE8.mono HEW.out.size)).trans ⟨rfl, rfl, rfl, by simp, fun k hk => setRow_other _ _ _ _ (by omega)⟩
      have hz8 := hE8.size
      simp only [Exit.inBlock, Act.put, tellPost]
      refine ⟨hKp.recs, hKp.cells, ?_, by simp; omega, hB8⟩
      simp only [List.map_append, List.map_cons, List.map_nil]
      rw [HS.out]
      exact setRow_heap _ _ _ _ _ _ hbx8
  case done =>
    rintro D xs W hD hS ⟨hbx, hsz, hEw⟩ hK
    have hfin : Ext w (W.putObj D (.deferred none)) := hEw.trans ((Turn.putObj (B := W1.heap.size) (.deferred none) hD hK rfl).below (by omega) hEw.size)
    have hv : W.cell? ⟨w.heap.size, 0, none⟩ = some (.int .u64 (addN 0 (xs.map (·.2)))) := cell_of_row _ _ _ _ _ _ hbx
    rw [hS] at hv
    have HFIN := Lib.hid hfin
    have HK := Lib.hid hK
    clear hfin hK hS TT HI0 hbx
    gi_wp2
    refine ⟨by simp, .inl ⟨_, _, rfl, run_takeDeferred HK.out, ?_⟩⟩
    refine ⟨_, results_tmp rfl _ _ _, ?_⟩
    exact ⟨rfl, HFIN.out⟩
end Go.Proofs.YtamolbegmkngdaaGreatDoor
namespace Go.Proofs.YtamolbegmkngdaaGreatDoor
open Go.RowKit Go.Sort
set_option maxHeartbeats 4000000
set_option maxRecDepth 100000
attribute [local go_sem] Oper.semAt_some

theorem sorted_nil (w : World) : Calls Tryz.prog 122 #[.pointer none] w fun e w' => e = .returned (.slice none 0 0) ∧ w = w' := by
  go_enter Tryz.func122, Tryz.ntmps122
  go_wp2
  go_ret
  exact ⟨rfl, rfl⟩

def SeqNil (w : World) (e : Ending) (w' : World) : Prop :=
  ∃ bw btb, e = .returned (.func (.func 159) #[] #[.pointer (some ⟨bw, 0, none⟩), .pointer (some ⟨btb, 0, none⟩)]) ∧
    w'.cell? ⟨bw, 0, none⟩ = some (.func (.func 122) #[.pointer none] #[]) ∧ Ext w w'

theorem told_nil (w : World) : Calls Tryz.prog 121 #[.pointer none, .func (.func 122) #[.pointer none] #[]] w (SeqNil w) := by
  have h2 : ∀ t u, ((w.alloc (.cells #[Value.pointer none] t)).alloc (.cells #[Value.func (.func 122) #[.pointer none] #[]] u)).cell? ⟨w.heap.size + 1, 0, none⟩ = some (.func (.func 122) #[.pointer none] #[]) := fun t u =>
    cell_of_row _ _ _ _ _ _ (by have := heap_alloc_new (w.alloc (.cells #[Value.pointer none] t)) (.cells #[Value.func (.func 122) #[.pointer none] #[]] u); rwa [World.size_alloc] at this)
  have H2 := Lib.hid h2
  clear h2
  go_enter Tryz.func121, Tryz.ntmps121
  go_wp2
  go_ret
  exact ⟨_, _, rfl, H2.out _ _, (Ext.alloc w _).trans (Ext.alloc _ _)⟩

theorem tall_nil (w : World) : Calls Tryz.prog 61 #[.pointer none] w (SeqNil w) := by
  have C1 := told_nil w
  go_enter Tryz.func61, Tryz.ntmps61
  go_wp2_with fail
  refine C1.mono ?_
  rintro e w1 ⟨bw, btb, rfl, h1, hE⟩
  have hfin : SeqNil w (.returned (.func (.func 159) #[] #[.pointer (some ⟨bw, 0, none⟩), .pointer (some ⟨btb, 0, none⟩)])) w1 := ⟨_, _, rfl, h1, hE⟩
  have HFIN := Lib.hid hfin
  clear hfin h1 hE C1
  go_wp2
  go_ret
  exact HFIN.out

/-- Nothing is told of a nil tree. -/
theorem told_tells_nil (Safe : World → Nat → Prop) (w : World) (bw btb fw : Nat) (bnd cap : Array Value)
    (hcw : w.cell? ⟨bw, 0, none⟩ = some (.func (.func fw) bnd cap)) (hen : ∀ args w, (callFunc fw args).run Tryz.prog w = .ok (.enter fw args) w) (hw : ∀ W, Ext w W → Calls Tryz.prog fw (bnd ++ cap) W fun e w' => e = .returned (.slice none 0 0) ∧ Ext W w') :
    Tells Fence.wide 5 Tryz.prog 159 #[.pointer (some ⟨bw, 0, none⟩), .pointer (some ⟨btb, 0, none⟩)] (fun x : Value × Nd => #[x.1]) (GS Safe) (KeepS Safe) Safe (fun xs => xs.map (·.2) = []) (fun pre => ∃ rest, pre.map (·.2) ++ rest = []) w := by
  intro l J Jx W hW hSW hJ hY h0
  refine callsIn_wide.2 ?_
  have hcwW : W.cell? ⟨bw, 0, none⟩ = some (.func (.func fw) bnd cap) := (hW.cell (p := ⟨bw, 0, none⟩) (World.block_lt_of_cell? _ _ hcw)).trans hcw
  have CW := hw W hW
  have HJ := Lib.hid hJ
  have CW := Lib.hid CW
  clear hcw hw hY hJ hSW
  go_enter Tryz.func159, Tryz.ntmps159
  go_wp2_with fail
  refine CW.out.mono ?_
  rintro e W1 ⟨rfl, hE1⟩
  have hJ1 := (HJ.out [] W W1 h0 hE1).1
  have HJ1 := Lib.hid hJ1
  clear CW hcwW hJ1 h0 hE1
  go_wp2
  go_loopw [4, 12] (fun lv i wr => lv = .slice none 0 0 ∧ i = .int .i64 0 ∧ wr = W1) (fun _ _ _ => 0)
  case atStart => exact ⟨rfl, rfl, rfl⟩
  case round =>
    obtain ⟨rfl, rfl, rfl⟩ := hrel
    go_wp2
    go_loopw [28] (fun i wt => i = .int .i64 0 ∧ wt = wr) (fun _ _ => 0)
    case atStart => exact ⟨rfl, rfl⟩
    case round =>
      obtain ⟨rfl, rfl⟩ := hrel
      go_wp2
      exact ⟨rfl, _, results_none rfl _ _ _, ⟨_, rfl⟩, .inl ⟨[], rfl, HJ1.out⟩⟩

theorem dof_nil (w : World) : Calls Tryz.prog 14 #[.pointer none] w fun e w' => e = .returned (.int .u64 0) ∧ Ext w w' := by
  obtain ⟨W0, hW0⟩ : ∃ W0, W0 = w.alloc (.cells #[.int .u64 0] 30) := ⟨_, rfl⟩
  have hE0 : Ext w W0 := by rw [hW0]; exact Ext.alloc _ _
  have hz0 : W0.heap.size = w.heap.size + 1 := by rw [hW0]; simp
  have hg0 : W0.heap[w.heap.size]? = some (.cells #[.int .u64 0] 30 (0, 0)) := by rw [hW0]; exact heap_alloc_new w _
  have C1 := Lib.hid (tall_nil W0)
  have HW0 := Lib.hid hW0
  have HE0 := Lib.hid hE0
  have HG0 := Lib.hid hg0
  clear hW0 hE0 hg0
  refine (callsIn_wide (n := 6)).1 (callsIn_of_wp_marks Tryz.func14 rfl trivial ?_)
  simp only [Tryz.ntmps14, List.size_toArray, List.length_cons, List.length_nil, Nat.reduceAdd, Nat.reduceSub, Array.replicate_succ, Array.replicate_zero, List.push_toArray, List.append_toArray, List.nil_append, List.cons_append]
  gi_wp2_with fail
  rw [← HW0.out]
  refine ⟨trivial, (callsIn_wide.2 C1.out).mono ?_⟩
  rintro e W1 ⟨bw, btb, rfl, hcw, hE1⟩
  have hz1 := hE1.size
  have hE01 := HE0.out.trans hE1
  have hg1 := (hE1.block _ (Array.getElem?_eq_some_iff.1 HG0.out).1).trans HG0.out
  have TT := told_tells_nil (fun _ k => k ≠ w.heap.size) W1 bw btb 122 #[.pointer none] #[] hcw (enters_of Tryz.func122 (by kernel_rfl) rfl)
    (fun W _ => (show Calls Tryz.prog 122 #[.pointer none] W _ from (sorted_nil W).mono fun e w' h => by obtain ⟨rfl, rfl⟩ := h; exact ⟨rfl, Ext.refl _⟩))
  have hI0 : OfI w W1 [] W1 := ⟨hg1, Nat.le_refl _, hE01⟩
  have hnn := told_not_nil #[.pointer (some ⟨bw, 0, none⟩), .pointer (some ⟨btb, 0, none⟩)] W1
  have TT := Lib.hid TT
  have HI0 := Lib.hid hI0
  clear hcw hE1 hE01 hg1 hI0 C1
  gi_wp2
  refine wpIn_tells_nd (Safe := fun _ k => k ≠ w.heap.size) (by omega) (gf := 159) (lb := #[.pointer (some ⟨bw, 0, none⟩), .pointer (some ⟨btb, 0, none⟩)]) rfl (enters_of Tryz.func159 (by kernel_rfl) rfl) TT.out (show 7 < 13 by decide) (show 4 < 13 by decide) (by decide)
    (OfI w W1) (fun _ _ _ => False) (fun _ _ _ _ h => h) ?hI ?hIx HI0.out ?body ?done ?stop
  case hI =>
    rintro pre X Y ⟨h1, h2, h3⟩ hTn
    exact ⟨⟨hTn.cells h1, Nat.le_trans h2 hTn.size, h3.trans (hTn.below (by omega) h3.size)⟩, fun k hk => by omega⟩
  case hIx => exact fun _ _ _ _ h _ => h
  case stop => exact fun _ _ _ _ _ _ h => h.elim
  case body =>
    rintro l pre n da dc aa ac bl W hl0 hrec ⟨rest, hSp⟩ _ hG hbl
    exfalso
    simp at hSp
  case done =>
    rintro D xs W hD hS ⟨hbx, hsz, hEw⟩ hK
    have hfin : Ext w (W.putObj D (.deferred none)) := hEw.trans ((Turn.putObj (B := W1.heap.size) (.deferred none) hD hK rfl).below (by omega) hEw.size)
    have hv : W.cell? ⟨w.heap.size, 0, none⟩ = some (.int .u64 (addN 0 (xs.map (·.2)))) := cell_of_row _ _ _ _ _ _ hbx
    rw [hS] at hv
    have HFIN := Lib.hid hfin
    have HK := Lib.hid hK
    clear hfin hK hS TT HI0 hbx
    gi_wp2
    refine ⟨by simp, .inl ⟨_, _, rfl, run_takeDeferred HK.out, ?_⟩⟩
    refine ⟨_, results_tmp rfl _ _ _, ?_⟩
    exact ⟨rfl, HFIN.out⟩
end Go.Proofs.YtamolbegmkngdaaGreatDoor
namespace Go.Proofs.YtamolbegmkngdaaGreatDoor
open Go.RowKit Go.Sort
set_option maxHeartbeats 2000000
set_option maxRecDepth 100000
attribute [local go_sem] Oper.semAt_some

/-- What Below hands back: a function that tells nodes; which: by another one. -/
def SeqB (bt x y : Nat) (w : World) (e : Ending) (w' : World) : Prop :=
  ∃ bw btb, e = .returned (.func (.func 159) #[] #[.pointer (some ⟨bw, 0, none⟩), .pointer (some ⟨btb, 0, none⟩)]) ∧
    w'.cell? ⟨bw, 0, none⟩ = some (.func (.func 123) #[] #[.pointer (some ⟨x, 0, none⟩), .pointer (some ⟨y, 0, none⟩)]) ∧ w'.cell? ⟨btb, 0, none⟩ = some (.pointer (some ⟨bt, 0, none⟩)) ∧ Ext w w'

theorem toldB_any (bt x y : Nat) (w : World) : Calls Tryz.prog 121 #[.pointer (some ⟨bt, 0, none⟩), .func (.func 123) #[] #[.pointer (some ⟨x, 0, none⟩), .pointer (some ⟨y, 0, none⟩)]] w (SeqB bt x y w) := by
  have h1 : ∀ t u, ((w.alloc (.cells #[Value.pointer (some ⟨bt, 0, none⟩)] t)).alloc (.cells #[Value.func (.func 123) #[] #[.pointer (some ⟨x, 0, none⟩), .pointer (some ⟨y, 0, none⟩)]] u)).cell? ⟨w.heap.size, 0, none⟩ = some (.pointer (some ⟨bt, 0, none⟩)) := fun t u =>
    cell_of_row _ _ _ _ _ _ ((heap_alloc_old _ _ (by simp)).trans (heap_alloc_new w _))
  have h2 : ∀ t u, ((w.alloc (.cells #[Value.pointer (some ⟨bt, 0, none⟩)] t)).alloc (.cells #[Value.func (.func 123) #[] #[.pointer (some ⟨x, 0, none⟩), .pointer (some ⟨y, 0, none⟩)]] u)).cell? ⟨w.heap.size + 1, 0, none⟩ = some (.func (.func 123) #[] #[.pointer (some ⟨x, 0, none⟩), .pointer (some ⟨y, 0, none⟩)]) := fun t u =>
    cell_of_row _ _ _ _ _ _ (by have := heap_alloc_new (w.alloc (.cells #[Value.pointer (some ⟨bt, 0, none⟩)] t)) (.cells #[Value.func (.func 123) #[] #[.pointer (some ⟨x, 0, none⟩), .pointer (some ⟨y, 0, none⟩)]] u); rwa [World.size_alloc] at this)
  have H1 := Lib.hid h1
  have H2 := Lib.hid h2
  clear h1 h2
  go_enter Tryz.func121, Tryz.ntmps121
  go_wp2
  go_ret
  exact ⟨_, _, rfl, H2.out _ _, H1.out _ _, (Ext.alloc w _).trans (Ext.alloc _ _)⟩

/-- The function, and the cells it looks at. -/
def BelOut (bt : Nat) (s : ByteArray) (w : World) (e : Ending) (w' : World) : Prop :=
  ∃ x y, SeqB bt x y w e w' ∧ w'.cell? ⟨x, 0, none⟩ = some (.pointer (some ⟨bt, 0, none⟩)) ∧ w'.cell? ⟨y, 0, none⟩ = some (.string s)

theorem tbelow_any (bt : Nat) (s : ByteArray) (w : World) : Calls Tryz.prog 62 #[.pointer (some ⟨bt, 0, none⟩), .string s] w (BelOut bt s w) := by
  have h1 : ∀ t u, ((w.alloc (.cells #[Value.pointer (some ⟨bt, 0, none⟩)] t)).alloc (.cells #[Value.string s] u)).cell? ⟨w.heap.size, 0, none⟩ = some (.pointer (some ⟨bt, 0, none⟩)) := fun t u =>
    cell_of_row _ _ _ _ _ _ ((heap_alloc_old _ _ (by simp)).trans (heap_alloc_new w _))
  have h2 : ∀ t u, ((w.alloc (.cells #[Value.pointer (some ⟨bt, 0, none⟩)] t)).alloc (.cells #[Value.string s] u)).cell? ⟨w.heap.size + 1, 0, none⟩ = some (.string s) := fun t u =>
    cell_of_row _ _ _ _ _ _ (by have := heap_alloc_new (w.alloc (.cells #[Value.pointer (some ⟨bt, 0, none⟩)] t)) (.cells #[Value.string s] u); rwa [World.size_alloc] at this)
  have H1 := Lib.hid h1
  have H2 := Lib.hid h2
  clear h1 h2
  have C1 := fun W => toldB_any bt w.heap.size (w.heap.size + 1) W
  go_enter Tryz.func62, Tryz.ntmps62
  go_wp2_with fail
  refine (C1 _).mono ?_
  rintro e w1 ⟨bw, btb, rfl, k1, k2, hE⟩
  have hfin : BelOut bt s w (.returned (.func (.func 159) #[] #[.pointer (some ⟨bw, 0, none⟩), .pointer (some ⟨btb, 0, none⟩)])) w1 :=
    ⟨w.heap.size, w.heap.size + 1, ⟨_, _, rfl, k1, k2, ((Ext.alloc w _).trans (Ext.alloc _ _)).trans hE⟩, (hE.cell (p := ⟨w.heap.size, 0, none⟩) (by simp; omega)).trans (H1.out _ _), (hE.cell (p := ⟨w.heap.size + 1, 0, none⟩) (by simp)).trans (H2.out _ _)⟩
  have HFIN := Lib.hid hfin
  clear hfin k1 k2 hE C1
  go_wp2
  go_ret
  exact HFIN.out

theorem below1_any (S : Nat → Prop) (w : World) (bt x y : Nat) (M : List (Key × Nd)) (N : Nat) (hT : TreeAt S w bt M N) (hc : Clo M) (s : ByteArray) (hs : s.size ≤ maxLen) (hN : M.length * 16 ≤ 140737488355328)
    (hx : w.cell? ⟨x, 0, none⟩ = some (.pointer (some ⟨bt, 0, none⟩))) (hy : w.cell? ⟨y, 0, none⟩ = some (.string s)) :
    Calls Tryz.prog 123 #[.pointer (some ⟨x, 0, none⟩), .pointer (some ⟨y, 0, none⟩)] w (SortedOut (UndL M s) w) := by
  have C1 := Lib.hid (under_any S w bt M N hT hc s hs hN)
  clear hT hc
  go_enter Tryz.func123, Tryz.ntmps123
  go_wp2_with fail
  refine C1.out.mono ?_
  rintro e w1 ⟨v, rfl, h1, h2, h3⟩
  have hfin : SortedOut (UndL M s) w (.returned v) w1 := ⟨v, rfl, h1, h2, h3⟩
  have HFIN := Lib.hid hfin
  clear hfin h1 h2 h3 C1 hx hy
  go_wp2
  go_ret
  exact HFIN.out

set_option maxHeartbeats 4000000 in
theorem lbelow_any (S : Nat → Prop) (w : World) (bt : Nat) (M : List (Key × Nd)) (N : Nat) (hT : TreeAt S w bt M N) (hc : Clo M) (s : ByteArray) (hs : s.size ≤ maxLen) (most : Nat) (hmost : most < maxLen) (hks : M.length * 168 ≤ 140737488355328) (hkl : ∀ k ∈ UndL M s, k.length ≤ maxLen) (hlen : (UndL M s).length ≤ M.length) :
    Calls Tryz.prog 94 #[.pointer (some ⟨bt, 0, none⟩), .string s, .int .i64 most] w (AllOut ((nodesOf M (UndL M s)).take (most + 1)) w) := by
  have HT := Lib.hid hT
  clear hT
  refine (callsIn_wide (n := 6)).1 (callsIn_of_wp_marks Tryz.func94 rfl trivial ?_)
  simp only [Tryz.ntmps94, List.size_toArray, List.length_cons, List.length_nil, Nat.reduceAdd, Nat.reduceSub, Array.replicate_succ, Array.replicate_zero, List.push_toArray, List.append_toArray, List.nil_append, List.cons_append]
  gi_wp2_with fail
  refine ⟨trivial, (callsIn_wide.2 (tbelow_any bt s _)).mono ?_⟩
  rintro e W1 ⟨cx, cy, ⟨bw, btb, rfl, hcw, hct, hE1⟩, hcx, hcy⟩
  have hbx : ((w.alloc (.cells #[.int .i64 most] 3)).alloc (.cells #[.slice none 0 0] 22)).heap[w.heap.size + 1]? = some (.cells #[.slice none 0 0] 22 (0, 0)) := by
    have := heap_alloc_new (w.alloc (.cells #[.int .i64 most] 3)) (.cells #[.slice none 0 0] 22)
    rwa [World.size_alloc] at this
  have hbm : ((w.alloc (.cells #[.int .i64 most] 3)).alloc (.cells #[.slice none 0 0] 22)).heap[w.heap.size]? = some (.cells #[.int .i64 most] 3 (0, 0)) :=
    (heap_alloc_old _ _ (by simp)).trans (heap_alloc_new w _)
  have hbx1 := (hE1.block _ (Array.getElem?_eq_some_iff.1 hbx).1).trans hbx
  have hbm1 := (hE1.block _ (Array.getElem?_eq_some_iff.1 hbm).1).trans hbm
  have hEw : Ext w W1 := ((Ext.alloc w _).trans (Ext.alloc _ _)).trans hE1
  have hz1 := hE1.size
  simp only [World.size_alloc] at hz1
  have hT1 := HT.out.ext hEw
  have hbd := HT.out.bound
  have hI0 : AllI W1.heap.size (w.heap.size + 1) w.heap.size w most [] [] (.slice none 0 0) W1 :=
    ⟨rfl, hbx1, hbm1, World.ownsRow_nil _ _ _ _, by simp, Nat.le_refl _, hEw⟩
  have hs1 : ∀ k, S k → SafeO (w.heap.size + 1) W1 k := fun k hk => ⟨by have := hbd k hk; omega, _, cell_of_row _ _ _ _ _ _ hbx1, by simp [Value.ownBlock]⟩
  have hOk := hT1.ok
  have TT := told_tells (SafeO (w.heap.size + 1)) S W1 bt M N hT1 hs1 bw btb 123 #[] #[.pointer (some ⟨cx, 0, none⟩), .pointer (some ⟨cy, 0, none⟩)] hcw hct (enters_of Tryz.func123 (by kernel_rfl) rfl) (UndL M s)
    (fun W hW => below1_any S W bt cx cy M N (hT1.ext hW) hc s hs (by omega) ((hW.cell (p := ⟨cx, 0, none⟩) (World.block_lt_of_cell? _ _ hcx)).trans hcx) ((hW.cell (p := ⟨cy, 0, none⟩) (World.block_lt_of_cell? _ _ hcy)).trans hcy)) (by omega) hkl
  have TT := Lib.hid TT
  have hnn := told_not_nil #[.pointer (some ⟨bw, 0, none⟩), .pointer (some ⟨btb, 0, none⟩)] W1
  have HI0 := Lib.hid hI0
  clear hbx hbm hbx1 hbm1 hE1 hT1 hbd hs1 hI0 hcw hct HT hEw hcx hcy
  generalize UndL M s = ks at *
  gi_wp2
  refine wpIn_tells rfl (by omega) (gf := 159) (lb := #[.pointer (some ⟨bw, 0, none⟩), .pointer (some ⟨btb, 0, none⟩)]) rfl trivial (enters_of Tryz.func159 (by kernel_rfl) rfl) TT.out (fun _ => rfl)
    (AllR (w.heap.size + 1) w.heap.size W1.heap.size w most) (AllX (w.heap.size + 1) w.heap.size W1.heap.size w most)
    (AllA fun p c => { tmps := #[.pointer (some ⟨bt, 0, none⟩), .string s, .int .i64 most, undef, undef, .pointer (some ⟨w.heap.size, 0, none⟩), .slice none 0 0, .pointer (some ⟨w.heap.size + 1, 0, none⟩), .func (.func 159) #[] #[.pointer (some ⟨bw, 0, none⟩), .pointer (some ⟨btb, 0, none⟩)], p, .pointer (some ⟨bt, 0, none⟩), .string s, .func (.func 159) #[] #[.pointer (some ⟨bw, 0, none⟩), .pointer (some ⟨btb, 0, none⟩)], .func (.func 159) #[] #[.pointer (some ⟨bw, 0, none⟩), .pointer (some ⟨btb, 0, none⟩)], .bool false, .func (.func 159) #[] #[.pointer (some ⟨bw, 0, none⟩), .pointer (some ⟨btb, 0, none⟩)], c, undef, undef, undef, undef, undef, undef, undef, undef, undef], defers := [] })
    (fun A X Y B h1 h2 h3 => keepS_turn h1 h2 h3) ?hI ?hIx (fun x X Y h1 h2 => gs_turn h1 h2) ?hAx ⟨[], _, HI0.out, Nat.zero_le _⟩ ?assign ?body ?done ?stop
  case hI =>
    rintro pre X Y ⟨vs, v, h, hl⟩ hT
    obtain ⟨h1, h2, h3⟩ := allI_turn h hT (by omega) (by omega)
    exact ⟨⟨vs, v, h1, hl⟩, h2, h3⟩
  case hIx =>
    rintro c pre X Y ⟨hc, vs, v, h, hl⟩ hT
    exact ⟨hc, vs, v, (allI_turn h hT (by omega) (by omega)).1, hl⟩
  case hAx =>
    rintro x a' X Y ⟨bl, cs, h1, h2, h3⟩ hT
    exact ⟨bl, cs, h1, hT.cells h2, h3⟩
  case assign =>
    rintro l pre ⟨xv, n⟩ W K ⟨vs, v, hI, hl⟩ hG hK
    obtain ⟨da, dc, aa, ac, e, _⟩ := hG
    dsimp only at e
    subst e
    obtain ⟨W2, hW2⟩ : ∃ W2, W2 = W.alloc (.cells (ndC n (.slice da n.data.length dc) (.slice aa n.acl.length ac)) 47) := ⟨_, rfl⟩
    have hax := hK _ W2 (by rw [hW2]; exact Ext.alloc _ _) ⟨W.heap.size, _, rfl, by rw [hW2]; exact heap_alloc_new W _, rfl⟩
    have HSET := Lib.hid ((setRow_alloc W zeroNd (ndC n (.slice da n.data.length dc) (.slice aa n.acl.length ac)) 47).trans hW2.symm)
    have HNew := Lib.hid (heap_alloc_new W (.cells zeroNd 47))
    have HAX := Lib.hid hax
    unfold ndC at HSET HAX ⊢
    unfold zeroNd at HSET HNew
    clear hK hI hW2 hax TT HI0
    gi_wp2_with (refine wpListIn_store_row (fun _ => trivial) rfl 47 (.tmp 9) (.tmp 16) rfl W.heap.size _ rfl rfl 47 _ HNew.out sizeNd rfl (cells_node n da aa _ _ dc ac) ?_; rw [HSET.out])
    exact HAX.out
  case body =>
    rintro l pre ⟨xv, n⟩ a' W hl0 _ ⟨rest, hSp⟩ ⟨vs, v, hI, hl⟩ hG ⟨bl, cs, e, hbl, rfl⟩
    dsimp only at e
    subst e
    have hG2 := hG
    obtain ⟨da, dc, aa, ac, e, _⟩ := hG
    simp only [Value.agg.injEq] at e
    subst e
    have hpl : pre.length + 1 ≤ M.length := by
      have := congrArg List.length hSp
      simp [nodesOf] at this
      omega
    have hv : W.cell? ⟨w.heap.size + 1, 0, none⟩ = some v := cell_of_row _ _ _ _ _ _ hI.box
    have hs17 : Cells (W.alloc (.cells (ndC n (.slice da n.data.length dc) (.slice aa n.acl.length ac)) 47)).heap.size (W.alloc (.cells (ndC n (.slice da n.data.length dc) (.slice aa n.acl.length ac)) 47)) (some ⟨W.heap.size, 0, none⟩) (ndC n (.slice da n.data.length dc) (.slice aa n.acl.length ac)).toList := fun j u hj => by
      refine ⟨_, 0, rfl, by simp, ?_⟩
      rw [Nat.zero_add, cell_of_row _ _ _ _ _ _ (heap_alloc_new W _)]
      simpa using hj
    have hsrc : Src Tryz.prog 17 22 (.slice (some ⟨W.heap.size, 0, none⟩) 1 1) 1 (ndC n (.slice da n.data.length dc) (.slice aa n.acl.length ac)).toList (W.alloc (.cells (ndC n (.slice da n.data.length dc) (.slice aa n.acl.length ac)) 47)) :=
      hs17.src Tryz.underlying22 1 1 (by simp [ndC]) (fun u hu => by
        have := cells_node n da aa n.data.length n.acl.length dc ac
        rw [← Array.all_toList] at this
        exact List.all_eq_true.1 this u hu)
    obtain ⟨i0, hi, hz0, hz1', hz2⟩ := info_parts infoNd
    have hownA := hI.row.alloc (.cells (ndC n (.slice da n.data.length dc) (.slice aa n.acl.length ac)) 47)
    have hszB := hI.size
    have HI := Lib.hid hI
    have HG := Lib.hid hG2
    have HBL := Lib.hid hbl
    unfold ndC at hsrc hownA HBL
    clear hs17 TT HI0 hI hG2 hbl
    gi_wp2_with (first | (refine wpListIn_load_row (fun _ => trivial) rfl 47 (.tmp 9) rfl bl rfl 47 _ (0, 0) _ HBL.out Tryz.underlying47 rfl sizeNd ?_) | (gi_at_builtin; refine wpListIn_append_src (fun _ => trivial) rfl (.tmp 17) (.tmp 19) 22 22 rfl W1.heap.size 47 i0 (.agg zeroNd) 17 168 Tryz.underlying22 hi hz0 hz1' hz2 rfl (by decide) _ pre.length _ rfl hownA _ 1 _ rfl hsrc ?c1 ?c2 ?c3 ?_))
    case c1 => unfold maxLen at *; omega
    case c2 => omega
    case c3 => first | omega | (simp; omega)
    intro v' w5 hown5 hg5 _ ho5
    rw [show [Value.string n.path, .slice da n.data.length dc, .slice aa n.acl.length ac, .int .i64 n.owner, .int .i64 n.czxid, .int .i64 n.mzxid, .int .i64 n.pzxid, .int .i64 n.azxid, .int .i64 n.qzxid, .int .i64 n.ctime, .int .i64 n.mtime, .int .i32 n.version, .int .i32 n.creates, .int .i32 n.aversion, .bool n.has, .int .i64 n.count, .int .i64 n.bytes] = (ndC n (.slice da n.data.length dc) (.slice aa n.acl.length ac)).toList from rfl] at hown5
    obtain ⟨hI6, hR6, hK6, hbo5⟩ := allI_step HI.out (by omega) (by omega) (by omega) (by omega) HG.out hown5 hg5 ho5
    obtain ⟨la, lc, rfl, _⟩ := ownsRow_from hown5
    have hv6 : (w5.setRow (w.heap.size + 1) #[.slice la (pre.length + 1) lc]).cell? ⟨w.heap.size + 1, 0, none⟩ = some (.slice la (pre.length + 1) lc) := cell_of_row _ _ _ _ _ _ hI6.box
    have hm6 : (w5.setRow (w.heap.size + 1) #[.slice la (pre.length + 1) lc]).cell? ⟨w.heap.size, 0, none⟩ = some (.int .i64 most) := cell_of_row _ _ _ _ _ _ hI6.lim
    obtain ⟨W6, hW6⟩ : ∃ W6, W6 = w5.setRow (w.heap.size + 1) #[.slice la (pre.length + 1) lc] := ⟨_, rfl⟩
    rw [← hW6] at hv6 hm6 hI6 hR6 hK6
    have HW6 := Lib.hid hW6
    have HB5 := Lib.hid hbo5
    have HI6 := Lib.hid hI6
    have HR6 := Lib.hid hR6
    have HK6 := Lib.hid hK6
    clear hW6 hbo5 hI6 hR6 hK6 hown5 hg5 ho5 hsrc hownA hv
    refine wpListIn_skipped (fun _ => trivial) rfl (fun c h => by cases h) (run_store_one 22 (.tmp 7) (.tmp 20) rfl (w.heap.size + 1) (.slice la (pre.length + 1) lc) rfl rfl rfl 22 v HB5.out infoSl) ?_
    rw [← HW6.out]
    gi_wp2
    · exact ⟨HR6.out, rfl, _, _, HI6.out, by simp; omega⟩
    · exact ⟨HR6.out, HK6.out, _, _, HI6.out, by simp; omega⟩
  case done =>
    rintro D xs W hD hS ⟨vs, v, hI, hl⟩ hK
    have hv : W.cell? ⟨w.heap.size + 1, 0, none⟩ = some v := cell_of_row _ _ _ _ _ _ hI.box
    have hfin := allOut_of (allI_turn hI (Turn.putObj (.deferred none) hD hK rfl) (by omega) (by omega)).1 (by omega) hS
    rw [← List.take_of_length_le (l := nodesOf M ks) (i := most + 1) (by rw [← hS]; simp; omega)] at hfin
    have HFIN := Lib.hid hfin
    have HK := Lib.hid hK
    clear hfin hK hI hS TT HI0
    gi_wp2
    refine ⟨by simp, .inl ⟨_, _, rfl, run_takeDeferred HK.out, ?_⟩⟩
    refine ⟨_, results_tmp rfl _ _ _, ?_⟩
    exact HFIN.out
  case stop =>
    rintro D c pre W hD ⟨rest, hS⟩ ⟨rfl, vs, v, hI, hl⟩ hK
    have hv : W.cell? ⟨w.heap.size + 1, 0, none⟩ = some v := cell_of_row _ _ _ _ _ _ hI.box
    have hfin := allOut_of (allI_turn hI (Turn.putObj (.deferred none) hD hK rfl) (by omega) (by omega)).1 (by omega) (ns := (nodesOf M ks).take (most + 1)) (by rw [← hS, List.take_append_of_le_length (by simp [hl]), List.take_of_length_le (by simp [hl])])
    have HFIN := Lib.hid hfin
    have HK := Lib.hid hK
    clear hfin hK hI hS TT HI0
    gi_wp2
    refine ⟨by simp, .inl ⟨_, _, rfl, run_takeDeferred HK.out, ?_⟩⟩
    refine ⟨_, results_tmp rfl _ _ _, ?_⟩
    exact HFIN.out
end Go.Proofs.YtamolbegmkngdaaGreatDoor
