/- The walk of After: a range over the map of nodes, in an order that nobody knows. The walk of stat.Encode, where the node may be. The walk of the sum of bytes; a node's number. The walk of a node's number. The walk of the tree's number: a range over the tree's nodes. A nil tree: what is told of it. The walk of the law's Below: a range over the nodes under a path. The walks of a nil tree's methods. The walks of arborref07's Get and After. The walks of arborref07's Add, Put and Remove. -/
import Derived.Test.YthinpbdbhijbgaaGreatDoorJTreePlays5
import Derived.Maps.RangeWalk
import Derived.Test.YthinpbdbhijbgaaGreatDoorJTreePlays2
import Derived.Test.YthinpbdbhijbgaaGreatDoorJTreePlays8
import Derived.Test.YthinpbdbhijbgaaGreatDoorJTreePlays7
import Derived.Test.YthinpbdbhijbgaaGreatDoorJTreePlays11
import Derived.Test.YthinpbdbhijbgaaGreatDoorJTreePlays9
namespace Go.Proofs.YthinpbdbhijbgaaGreatDoor
open Go.RowKit
set_option maxHeartbeats 2000000
set_option maxRecDepth 100000

section
variable {P : Program} {ops : Array Oper} {rest : List Oper} {o : Oper} {a : Act} {Q : Exit → Act → World → Prop}

/-- 'range m' over a map keyed by strings. -/
theorem wpList_range_s (w : World) (hg : o.guard = none) (x : Operand) (t : TypeId) (hop : o.op = Op.range t x) (kt e : TypeId) (hk : P.underlying kt = some .string) (ht : P.underlying t = some (.map kt e)) (b : Nat) (m : List (Key × Value))
    (hm : a.eval x = .map (some b)) (h : SMap P kt w b m)
    (hK : ∀ w', w'.ranges P kt Rv b w.heap.size m.length (kvD m) (Maps.has (kvD m)) (Maps.size (kvD m)) → w.grownBy w' none → w'.heap.size = w.heap.size + 1 → wpList P ops Q rest (a.put o.dst (.pointer (some ⟨w.heap.size, 0, none⟩))) w') :
    wpList P ops Q (o :: rest) a w :=
  wpList_range_own w hg x t hop kt e (Maps.string_keyed hk) ht Rv b _ _ hm h hK

/-- The step of a range over a map keyed by strings. -/
theorem wpList_next_s (w : World) (hg : o.guard = none) (it : Operand) (hop : o.op = Op.next it false) (kt : TypeId) (hk : P.underlying kt = some .string) (b r n : Nat) (m : List (Key × Value)) (left : Lit → Bool) (cnt : Nat)
    (hit : a.eval it = .pointer (some ⟨r, 0, none⟩)) (h : w.ranges P kt Rv b r n (kvD m) left cnt)
    (hDone : (∀ kl, left kl = false) → wpList P ops Q rest (a.put o.dst (.tuple #[.bool false])) w)
    (hMore : ∀ (s : ByteArray) (v : Value) (w' : World) (cnt' : Nat), s.size ≤ maxLen → mget m s.data.toList = some v → w'.ranges P kt Rv b r n (kvD m) (fun z => left z && !z.sameKey (.string s.data.toList)) cnt' → cnt' < cnt →
      w.grownBy w' (some r) → w'.heap.size = w.heap.size → (Instr.entry (.pointer (some ⟨r, 0, none⟩))).run P w' = .ok (.tuple #[.string s, v]) w' → wpList P ops Q rest (a.put o.dst (.tuple #[.bool true, .string s, v])) w') :
    wpList P ops Q (o :: rest) a w :=
  wpList_next_ranges w hg it hop kt (Maps.string_keyed hk) Rv Value.string (id : Value → Value) (fun key kl hkey => by
      simp only [keyOf, hk, mapKey] at hkey
      cases key <;> simp at hkey
      exact ⟨_, rfl⟩) (fun v y _ => ⟨v, rfl⟩) b r n (kvD m) left cnt hit h (fun _ => hDone) fun s v kl y w' cnt' hkey _ hv hat hrg hlt hgr hsz hen => by
    have hkl : kl = .string s.data.toList ∧ s.size ≤ maxLen := by
      simp only [keyOf, hk, mapKey] at hkey
      split at hkey
      · rename_i hs; exact ⟨(Option.some.inj hkey).symm, hs⟩
      · cases hkey
    obtain ⟨rfl, hs⟩ := hkl
    simp only [Rv, id, Option.some.injEq] at hv
    subst hv
    refine hMore s v w' cnt' hs ?_ hrg hlt hgr hsz hen
    have h1 := hat (.held (.bool true))
    have h2 := hat (.held (.bool false))
    rw [kvD_at] at h1 h2
    simp only [DataW.held.injEq] at h1 h2
    cases hq : mget m s.data.toList with
    | some u => rw [hq] at h1; exact congrArg some h1
    | none => rw [hq] at h1 h2; simp at h1 h2; rw [← h1] at h2; cases h2
end

/-- The first behind a text. -/
def afterN (M : List (Key × Nd)) (s : ByteArray) : Option (Key × Nd) := M.find? fun x => bytesBefore s.data.toList x.1

/-- What the rounds of the range have found. -/
structure Aft (M : List (Key × Nd)) (s : Key) (left : Lit → Bool) (best : ByteArray) (found : Bool) : Prop where
  there : found = true → (∃ n, (best.data.toList, n) ∈ M) ∧ bytesBefore s best.data.toList = true
  no : found = false → best = ⟨#[]⟩
  le : ∀ x ∈ M, left (.string x.1) = false → bytesBefore s x.1 = true → found = true ∧ bytesBefore x.1 best.data.toList = false

theorem Aft.step {M : List (Key × Nd)} {s : Key} {left : Lit → Bool} {best : ByteArray} {found : Bool} (h : Aft M s left best found) (p : ByteArray) {n : Nd} (hp : (p.data.toList, n) ∈ M) :
    Aft M s (fun z => left z && !z.sameKey (.string p.data.toList)) (if bytesBefore s p.data.toList = true ∧ (found = false ∨ bytesBefore p.data.toList best.data.toList = true) then p else best)
      (if bytesBefore s p.data.toList = true ∧ (found = false ∨ bytesBefore p.data.toList best.data.toList = true) then true else found) := by
  have hsame : ∀ k : Key, (Lit.string k).sameKey (.string p.data.toList) = (k == p.data.toList) := fun k => rfl
  have tr : ∀ a b c : Key, bytesBefore a b = true → bytesBefore b c = true → bytesBefore a c = true := fun a b c => WideShapes.bytes_trans a b c
  split
  · rename_i hc
    refine ⟨fun _ => ⟨⟨n, hp⟩, hc.1⟩, fun e => (by cases e), fun x hx hl hs => ⟨rfl, ?_⟩⟩
    simp only [hsame, Bool.and_eq_false_iff, Bool.not_eq_false'] at hl
    rcases hl with hl | hl
    · obtain ⟨h1, h2⟩ := h.le x hx hl hs
      rcases hc.2 with h3 | h3
      · rw [h1] at h3; cases h3
      · cases h4 : bytesBefore x.1 p.data.toList with
        | false => rfl
        | true => rw [tr _ _ _ h4 h3] at h2; cases h2
    · have : x.1 = p.data.toList := by simpa using hl
      rw [this, WideAt.bytes_irrefl]
  · rename_i hc
    refine ⟨h.there, h.no, fun x hx hl hs => ?_⟩
    simp only [hsame, Bool.and_eq_false_iff, Bool.not_eq_false'] at hl
    rcases hl with hl | hl
    · exact h.le x hx hl hs
    · have e : x.1 = p.data.toList := by simpa using hl
      rw [e] at hs ⊢
      cases hf : found with
      | false => exact absurd ⟨hs, .inl hf⟩ hc
      | true =>
        refine ⟨rfl, ?_⟩
        cases h4 : bytesBefore p.data.toList best.data.toList with
        | false => rfl
        | true => exact absurd ⟨hs, .inr h4⟩ hc

theorem Aft.done {M : List (Key × Nd)} (hM : MOk M) {s : ByteArray} {left : Lit → Bool} {best : ByteArray} {found : Bool} (h : Aft M s.data.toList left best found) (hl : ∀ kl, left kl = false) :
    (afterN M s).isSome = found ∧ (mget M best.data.toList).getD zeroN = ((afterN M s).map (·.2)).getD zeroN := by
  unfold afterN
  cases hf : M.find? fun x => bytesBefore s.data.toList x.1 with
  | none =>
    have hno := List.find?_eq_none.1 hf
    cases found with
    | true =>
      obtain ⟨⟨n, hn⟩, hs⟩ := h.there rfl
      exact absurd hs (hno _ hn)
    | false =>
      refine ⟨rfl, ?_⟩
      rw [h.no rfl]
      rw [mget_none_of fun x hx => ?_]
      · rfl
      · intro e
        have h1 := (vpath_facts (right_vpath (hM.right x hx))).1
        have h2 := hM.key x hx
        rw [e] at h2
        have h3 : x.2.path.data.toList = [] := h2.symm
        have h4 : x.2.path.size = 0 := by rw [← size_list, h3]; rfl
        omega
  | some y =>
    have hy := List.find?_some hf
    have hm := List.mem_of_find?_eq_some hf
    obtain ⟨h1, h2⟩ := h.le y hm (hl _) (by simpa using hy)
    subst h1
    refine ⟨rfl, ?_⟩
    obtain ⟨⟨n, hn⟩, hs⟩ := h.there rfl
    have hb : best.data.toList = y.1 := by
      by_cases e : best.data.toList = y.1
      · exact e
      · exfalso
        rcases WideAt.bytes_total _ _ e with h3 | h3
        · have hp := List.find?_eq_some_iff_append.1 hf
          obtain ⟨_, l1, l2, e1, h4⟩ := hp
          have hso := hM.sorted
          rw [e1] at hn hso
          rcases List.mem_append.1 hn with h5 | h5
          · have := h4 _ h5
            rw [hs] at this; cases this
          · rcases List.mem_cons.1 h5 with h6 | h6
            · exact e (by rw [← h6])
            · have h7 := (List.pairwise_append.1 hso).2.1
              have h8 := (List.pairwise_cons.1 h7).1 _ h6
              have h9 := WideShapes.bytes_trans _ _ _ h3 h8
              rw [WideAt.bytes_irrefl] at h9; cases h9
        · rw [h3] at h2; cases h2
    rw [hb, mget_of_mem hM.sorted (show (y.1, y.2) ∈ M from hm)]
    rfl

theorem less_before : ∀ a b : List UInt8, Op.bytesLess a b = bytesBefore a b
  | [], [] => rfl
  | [], _ :: _ => rfl
  | _ :: _, [] => rfl
  | a :: x, b :: y => by simp only [Op.bytesLess, bytesBefore, less_before x y]

def AfterOut (M : List (Key × Nd)) (s : ByteArray) (w : World) (e : Ending) (w' : World) : Prop :=
  ∃ v, e = .returned (.tuple #[v, .bool (afterN M s).isSome]) ∧ NdS (fun b => w.heap.size ≤ b ∧ b < w'.heap.size) w' v (((afterN M s).map (·.2)).getD zeroN) ∧ Ext w w'

theorem after_any (S : Nat → Prop) (w : World) (bt : Nat) (M : List (Key × Nd)) (N : Nat) (hT : TreeAt S w bt M N) (s : ByteArray) : Calls Tryz.prog 83 #[.pointer (some ⟨bt, 0, none⟩), .string s] w (AfterOut M s w) := by
  obtain ⟨W1, hW1⟩ : ∃ W1, W1 = w.alloc (.cells zeroNd 44) := ⟨_, rfl⟩
  have hE1 : Ext w W1 := by rw [hW1]; exact Ext.alloc _ _
  have hz1 : W1.heap.size = w.heap.size + 1 := by rw [hW1]; simp
  have hr1 : W1.heap[w.heap.size]? = some (.cells zeroNd 44 (0, 0)) := by rw [hW1]; exact heap_alloc_new w _
  have hT1 := hT.ext hE1
  have hok := hT.ok
  obtain ⟨bn, bk, K, hd, hNd, hKd⟩ := hT1
  have hx := TreeAt.box hd
  obtain ⟨mm, hm, hr⟩ := hNd.ex
  have HT := Lib.hid hT
  have HE1 := Lib.hid hE1
  have HR1 := Lib.hid hr1
  have HD := Lib.hid hd
  have HND := Lib.hid hNd
  have HM := hm
  have HR := Lib.hid hr
  unfold Box treeC at hx
  have hx' := hx
  rw [hW1] at hx' HM
  unfold zeroNd at hx' HM hW1
  have HW1 := Lib.hid hW1
  clear hT hE1 hr1 hd hNd hKd hm hr hW1 hx
  go_enter Tryz.func83, Tryz.ntmps83
  go_wp2_with (at_range; refine wpList_range_s _ rfl _ 120 rfl 9 44 strT Tryz.underlying120 bn mm rfl HM ?_; intro w0 hrg0 hg0 hs0)
  go_frame
  rw [← HW1.out] at hrg0 hg0 hs0
  rw [show (w.alloc (.cells #[.string ⟨#[]⟩, .slice none 0 0, .slice none 0 0, .int .i64 0, .int .i64 0, .int .i64 0, .int .i64 0, .int .i64 0, .int .i64 0, .int .i64 0, .int .i64 0, .int .i32 0, .int .i32 0, .int .i32 0, .bool false, .int .i64 0, .int .i64 0] 44)) = W1 from HW1.out.symm]
  rw [hz1] at hrg0 ⊢
  clear hx' HM
  have hbl : bn < w.heap.size := HT.out.bound _ (by have := HD.out.sn; exact this)
  have hEr : Ext W1 w0 := ⟨hg0.os, hg0.tape, hg0.output, hg0.size, fun k hk => hg0.block k hk (by simp)⟩
  have hA0 : Aft M s.data.toList (Maps.has (kvD mm)) ⟨#[]⟩ false := ⟨fun h => (by cases h), fun _ => rfl, fun x hx hl _ => by
    exfalso
    rw [kvD_has] at hl
    rcases HR.out.get x.1 with ⟨h1, _⟩ | ⟨y, v, _, h2, _⟩
    · exact mget_none h1 x hx rfl
    · rw [h2] at hl; cases hl⟩
  go_loopw [6, 7] (fun b f wr => ∃ (left : Lit → Bool) (cnt : Nat) (best : ByteArray) (found : Bool), b = .string best ∧ f = .bool found ∧ wr.ranges Tryz.prog 9 Rv bn (w.heap.size + 1) mm.length (kvD mm) left cnt ∧ Aft M s.data.toList left best found ∧ Ext W1 wr) (fun _ _ wr => wr.rangeLeft bn (w.heap.size + 1))
  case atStart => exact ⟨_, _, _, _, rfl, rfl, hrg0, hA0, hEr⟩
  case round =>
    obtain ⟨left, cnt, best, found, rfl, rfl, hrg, hA, hE⟩ := hrel
    go_wp2_with (at_next; refine wpList_next_s _ rfl _ rfl 9 strT bn (w.heap.size + 1) _ mm left cnt rfl hrg ?_ ?_)
    · intro hl0
      obtain ⟨hd1, hd2⟩ := hA.done hok hl0
      have hbnd := HD.out.bound
      have hbs : best.size ≤ maxLen := by
        cases hf : found with
        | false => rw [hA.no hf]; unfold maxLen; decide
        | true =>
          obtain ⟨⟨n, hn⟩, _⟩ := hA.there hf
          have h1 := hok.key _ hn
          have h2 := (vpath_facts (right_vpath (hok.right _ hn))).2.1
          unfold keyN at h1
          rw [← size_list] at h2
          have h3 : best.data.toList.length ≤ 4096 := by
            have h1' : best.data.toList = n.path.data.toList := h1
            rw [h1']; exact h2
          rw [size_list] at h3
          unfold maxLen; omega
      have hNd2 : NodesAt S wr bn M N := HND.out.keep (hE.block bn (by omega)) (fun _ h => h) (fun b o u hb hu => (hE.cell (p := ⟨b, o, none⟩) (hbnd b hb)).trans hu) (Nat.le_refl _)
      have hx : Box wr bt (treeC bn bk) := fun j => cell_of_row _ _ _ _ _ _ ((hE.block bt (hbnd _ HD.out.st)).trans HD.out.blk)
      obtain ⟨v, hv, _, hq2⟩ := hNd2.look' best hbs
      have hfit := hok.fit best.data.toList
      rw [hd2] at hv hfit
      generalize hn : ((afterN M s).map (·.2)).getD zeroN = n at *
      obtain ⟨da, dc, aa, ac, rfl, hDd, hAa⟩ := hv
      have hbndr : ∀ k, S k → k < wr.heap.size := fun k hk => Nat.lt_of_lt_of_le (hbnd k hk) hE.size
      have C := Lib.hid (sclone_nd n da aa dc ac wr hfit (hDd.cells hbndr) (hAa.cells hbndr))
      have HEW := Lib.hid (HE1.out.trans hE)
      have HRr := Lib.hid ((hE.block w.heap.size (by omega)).trans HR1.out)
      have HN := Lib.hid hn
      have HDN := Lib.hid hd1
      have hzr := hE.size
      unfold Box treeC at hx
      unfold ndC at hq2 C
      unfold zeroNd at HRr
      clear hrg hA hE hNd2 hDd hAa hbndr hfit hd1 hd2 hn hrg0 hg0 hs0 hEr hA0 hbnd hbs HT HE1 HR1 HD HND HR HW1
      go_wp2_with fail
      refine C.out.mono ?_
      rintro e w3 ⟨v3, rfl, hN3, hb3⟩
      have hE3 : Ext wr w3 := hb3
      obtain ⟨va, vc, vb, vd, rfl, h1, h2⟩ := hN3
      have HR3 := Lib.hid ((hE3.block w.heap.size (by omega)).trans HRr.out)
      have hz3 := hE3.size
      have hEw : Ext w w3 := HEW.out.trans hE3
      clear C hb3 hx hq2
      go_wp2_with (refine wpList_store_row rfl 44 (.tmp 4) (.tmp 40) rfl w.heap.size _ rfl rfl 44 _ HR3.out sizeNd rfl (cells_node n va vb _ _ vc vd) ?_)
      obtain ⟨cs, hcs⟩ : ∃ cs, cs = ndC n (.slice va n.data.length vc) (.slice vb n.acl.length vd) := ⟨_, rfl⟩
      have hR4 := setRow_heap w3 w.heap.size _ cs 44 (0, 0) HR3.out
      have hs4 : (w3.setRow w.heap.size cs).heap.size = w3.heap.size := by simp [World.setRow]
      have hb4 : Ext w (w3.setRow w.heap.size cs) := hEw.trans' ⟨rfl, rfl, rfl, by rw [hs4]; exact Nat.le_refl _, fun k hk => setRow_other _ _ _ _ (by omega)⟩
      have hk : ∀ (b o : Nat) u, (wr.heap.size ≤ b ∧ b < w3.heap.size) → w3.cell? ⟨b, o, none⟩ = some u → (w3.setRow w.heap.size cs).cell? ⟨b, o, none⟩ = some u := fun b o u hb hu =>
        (World.cell?_of_block (setRow_other _ _ _ _ (show b ≠ w.heap.size by have := hb.1; omega))).trans hu
      have c1 := h1.imp (S' := fun b => w.heap.size ≤ b ∧ b < (w3.setRow w.heap.size cs).heap.size) (fun b hb => ⟨by omega, by omega⟩) hk
      have c2 := h2.imp (S' := fun b => w.heap.size ≤ b ∧ b < (w3.setRow w.heap.size cs).heap.size) (fun b hb => ⟨by omega, by omega⟩) hk
      have hsz17 : (Tryz.prog.info? 44).map (·.size) = some cs.size := by rw [hcs]; exact sizeNd
      have hfin : AfterOut M s w (.returned (.tuple #[.agg cs, .bool found])) (w3.setRow w.heap.size cs) :=
        ⟨_, by rw [HDN.out], by rw [HN.out]; exact ⟨va, vc, vb, vd, by rw [hcs], c1, c2⟩, hb4⟩
      rw [hcs] at hfin hR4 hsz17
      refine bodyPost_ret (v := .tuple #[.agg (ndC n (.slice va n.data.length vc) (.slice vb n.acl.length vd)), .bool found]) ?_ rfl hfin
      exact results_cell_row2 (p := 4) (q := 5) (ty := 44) rfl _ _ w.heap.size 44 _ (0, 0) _ _ rfl rfl hR4 Tryz.underlying44 rfl hsz17
    · intro p v w1 cnt1 hps hmp hrg1 hlt hg1 hs1 hen
      obtain ⟨n, hmem⟩ : ∃ n, (p.data.toList, n) ∈ M := by
        rcases HR.out.get p.data.toList with ⟨_, h2⟩ | ⟨y, u, h1, _, _⟩
        · rw [h2] at hmp; cases hmp
        · exact ⟨y, mget_some_mem h1⟩
      have hA1 := hA.step p hmem
      have hEn : Ext W1 w1 := hE.trans' ⟨hg1.os, hg1.tape, hg1.output, hg1.size, fun k hk => hg1.block k (Nat.lt_of_lt_of_le hk hE.size) (fun e => by have := Option.some.inj e; omega)⟩
      have HA1 := Lib.hid hA1
      have HRG1 := Lib.hid hrg1
      have HRG := Lib.hid hrg
      have HEN := Lib.hid hEn
      have lt_b : ∀ a b : ByteArray, Op.bytesLess a.toList b.toList = bytesBefore a.data.toList b.data.toList := fun a b => by rw [less_before, Lib.toList_data, Lib.toList_data]
      clear hA hrg hrg1 hg1 hs1 hEr hA0 hrg0 hg0 hs0 hmem hmp hA1 hE hEn HT HE1 HR1 HD HND HR HW1
      cases hgt : bytesBefore s.data.toList p.data.toList with
      | false =>
        have hA2 := HA1.out
        rw [if_neg (by rw [hgt]; simp), if_neg (by rw [hgt]; simp)] at hA2
        have HA2 := Lib.hid hA2
        clear hA2 HA1
        cases hlp : bytesBefore p.data.toList s.data.toList with
        | true =>
          have f1 : Op.bytesLess p.toList s.toList = true := by rw [lt_b]; exact hlp
          clear hgt hlp lt_b
          go_wp2
          go_roundw
          case rel => exact ⟨_, _, _, _, rfl, rfl, HRG1.out, HA2.out, HEN.out⟩
          case measure => rw [HRG1.out.left_eq, HRG.out.left_eq]; exact hlt
        | false =>
          have hep : p = s := by
            by_cases e : p.data.toList = s.data.toList
            · exact ba_ext e
            · rcases WideAt.bytes_total _ _ e with h | h
              · rw [hlp] at h; cases h
              · rw [hgt] at h; cases h
          have f1 : Op.bytesLess p.toList s.toList = false := by rw [lt_b]; exact hlp
          have f2 : (p.toList == s.toList) = true := by rw [hep]; simp
          have f3 : p.toList = s.toList := by rw [hep]
          clear hgt hlp lt_b hep
          go_wp2
          go_roundw
          case rel => exact ⟨_, _, _, _, rfl, rfl, HRG1.out, HA2.out, HEN.out⟩
          case measure => rw [HRG1.out.left_eq, HRG.out.left_eq]; exact hlt
      | true =>
        have hlp : bytesBefore p.data.toList s.data.toList = false := by
          cases hq : bytesBefore p.data.toList s.data.toList with
          | false => rfl
          | true => have h3 := WideShapes.bytes_trans _ _ _ hgt hq; rw [WideAt.bytes_irrefl] at h3; cases h3
        have hne : p.toList ≠ s.toList := fun e => by
          rw [Lib.toList_data, Lib.toList_data] at e
          rw [e, WideAt.bytes_irrefl] at hgt; cases hgt
        have f1 : Op.bytesLess p.toList s.toList = false := by rw [lt_b]; exact hlp
        have f2 : (p.toList == s.toList) = false := by simpa using hne
        have f3 : decide (p.toList = s.toList) = false := by simpa using hne
        cases hf : found with
        | false =>
          have hA2 := HA1.out
          rw [if_pos ⟨hgt, .inl hf⟩, if_pos ⟨hgt, .inl hf⟩] at hA2
          have HA2 := Lib.hid hA2
          clear hA2 HA1 hgt hlp lt_b
          go_wp2
          go_roundw
          case rel => exact ⟨_, _, _, _, rfl, rfl, HRG1.out, HA2.out, HEN.out⟩
          case measure => rw [HRG1.out.left_eq, HRG.out.left_eq]; exact hlt
        | true =>
          cases hpb : bytesBefore p.data.toList best.data.toList with
          | true =>
            have f4 : Op.bytesLess p.toList best.toList = true := by rw [lt_b]; exact hpb
            have hA2 := HA1.out
            rw [if_pos ⟨hgt, .inr hpb⟩, if_pos ⟨hgt, .inr hpb⟩] at hA2
            have HA2 := Lib.hid hA2
            clear hA2 HA1 hgt hlp lt_b hpb
            go_wp2
            go_roundw
            case rel => exact ⟨_, _, _, _, rfl, rfl, HRG1.out, HA2.out, HEN.out⟩
            case measure => rw [HRG1.out.left_eq, HRG.out.left_eq]; exact hlt
          | false =>
            have f4 : Op.bytesLess p.toList best.toList = false := by rw [lt_b]; exact hpb
            have hA2 := HA1.out
            rw [if_neg (by rw [hf, hpb]; simp), if_neg (by rw [hf, hpb]; simp), hf] at hA2
            have HA2 := Lib.hid hA2
            clear hA2 HA1 hgt hlp lt_b hpb
            go_wp2
            go_roundw
            case rel => exact ⟨_, _, _, _, rfl, rfl, HRG1.out, HA2.out, HEN.out⟩
            case measure => rw [HRG1.out.left_eq, HRG.out.left_eq]; exact hlt
end Go.Proofs.YthinpbdbhijbgaaGreatDoor
namespace Go.Proofs.YthinpbdbhijbgaaGreatDoor
open Go.RowKit
set_option maxHeartbeats 4000000
set_option maxRecDepth 100000

end Go.Proofs.YthinpbdbhijbgaaGreatDoor
namespace Go.Proofs.YthinpbdbhijbgaaGreatDoor
open Go.RowKit
set_option maxHeartbeats 2000000
set_option maxRecDepth 100000

end Go.Proofs.YthinpbdbhijbgaaGreatDoor
namespace Go.Proofs.YthinpbdbhijbgaaGreatDoor
open Go.RowKit
set_option maxHeartbeats 2000000
set_option maxRecDepth 100000

end Go.Proofs.YthinpbdbhijbgaaGreatDoor
namespace Go.Proofs.YthinpbdbhijbgaaGreatDoor
open Go.RowKit Go.Sort
set_option maxHeartbeats 4000000
set_option maxRecDepth 100000
attribute [local go_sem] Oper.semAt_some

end Go.Proofs.YthinpbdbhijbgaaGreatDoor
namespace Go.Proofs.YthinpbdbhijbgaaGreatDoor
open Go.RowKit Go.Sort
set_option maxHeartbeats 4000000
set_option maxRecDepth 100000
attribute [local go_sem] Oper.semAt_some

end Go.Proofs.YthinpbdbhijbgaaGreatDoor
namespace Go.Proofs.YthinpbdbhijbgaaGreatDoor
open Go.RowKit Go.Sort
set_option maxHeartbeats 2000000
set_option maxRecDepth 100000
attribute [local go_sem] Oper.semAt_some

/-- What Below hands back: a function that tells nodes; which: by another one. -/
def SeqB (bt x y : Nat) (w : World) (e : Ending) (w' : World) : Prop :=
  ∃ bw btb, e = .returned (.func (.func 195) #[] #[.pointer (some ⟨bw, 0, none⟩), .pointer (some ⟨btb, 0, none⟩)]) ∧
    w'.cell? ⟨bw, 0, none⟩ = some (.func (.func 194) #[] #[.pointer (some ⟨x, 0, none⟩), .pointer (some ⟨y, 0, none⟩)]) ∧ w'.cell? ⟨btb, 0, none⟩ = some (.pointer (some ⟨bt, 0, none⟩)) ∧ Ext w w'

theorem toldB_any (bt x y : Nat) (w : World) : Calls Tryz.prog 151 #[.pointer (some ⟨bt, 0, none⟩), .func (.func 194) #[] #[.pointer (some ⟨x, 0, none⟩), .pointer (some ⟨y, 0, none⟩)]] w (SeqB bt x y w) := by
  have h1 : ∀ t u, ((w.alloc (.cells #[Value.pointer (some ⟨bt, 0, none⟩)] t)).alloc (.cells #[Value.func (.func 194) #[] #[.pointer (some ⟨x, 0, none⟩), .pointer (some ⟨y, 0, none⟩)]] u)).cell? ⟨w.heap.size, 0, none⟩ = some (.pointer (some ⟨bt, 0, none⟩)) := fun t u =>
    cell_of_row _ _ _ _ _ _ ((heap_alloc_old _ _ (by simp)).trans (heap_alloc_new w _))
  have h2 : ∀ t u, ((w.alloc (.cells #[Value.pointer (some ⟨bt, 0, none⟩)] t)).alloc (.cells #[Value.func (.func 194) #[] #[.pointer (some ⟨x, 0, none⟩), .pointer (some ⟨y, 0, none⟩)]] u)).cell? ⟨w.heap.size + 1, 0, none⟩ = some (.func (.func 194) #[] #[.pointer (some ⟨x, 0, none⟩), .pointer (some ⟨y, 0, none⟩)]) := fun t u =>
    cell_of_row _ _ _ _ _ _ (by have := heap_alloc_new (w.alloc (.cells #[Value.pointer (some ⟨bt, 0, none⟩)] t)) (.cells #[Value.func (.func 194) #[] #[.pointer (some ⟨x, 0, none⟩), .pointer (some ⟨y, 0, none⟩)]] u); rwa [World.size_alloc] at this)
  have H1 := Lib.hid h1
  have H2 := Lib.hid h2
  clear h1 h2
  go_enter Tryz.func151, Tryz.ntmps151
  go_wp2
  go_ret
  exact ⟨_, _, rfl, H2.out _ _, H1.out _ _, (Ext.alloc w _).trans (Ext.alloc _ _)⟩

/-- The function, and the cells it looks at. -/
def BelOut (bt : Nat) (s : ByteArray) (w : World) (e : Ending) (w' : World) : Prop :=
  ∃ x y, SeqB bt x y w e w' ∧ w'.cell? ⟨x, 0, none⟩ = some (.pointer (some ⟨bt, 0, none⟩)) ∧ w'.cell? ⟨y, 0, none⟩ = some (.string s)

theorem tbelow_any (bt : Nat) (s : ByteArray) (w : World) : Calls Tryz.prog 150 #[.pointer (some ⟨bt, 0, none⟩), .string s] w (BelOut bt s w) := by
  have h1 : ∀ t u, ((w.alloc (.cells #[Value.pointer (some ⟨bt, 0, none⟩)] t)).alloc (.cells #[Value.string s] u)).cell? ⟨w.heap.size, 0, none⟩ = some (.pointer (some ⟨bt, 0, none⟩)) := fun t u =>
    cell_of_row _ _ _ _ _ _ ((heap_alloc_old _ _ (by simp)).trans (heap_alloc_new w _))
  have h2 : ∀ t u, ((w.alloc (.cells #[Value.pointer (some ⟨bt, 0, none⟩)] t)).alloc (.cells #[Value.string s] u)).cell? ⟨w.heap.size + 1, 0, none⟩ = some (.string s) := fun t u =>
    cell_of_row _ _ _ _ _ _ (by have := heap_alloc_new (w.alloc (.cells #[Value.pointer (some ⟨bt, 0, none⟩)] t)) (.cells #[Value.string s] u); rwa [World.size_alloc] at this)
  have H1 := Lib.hid h1
  have H2 := Lib.hid h2
  clear h1 h2
  have C1 := fun W => toldB_any bt w.heap.size (w.heap.size + 1) W
  go_enter Tryz.func150, Tryz.ntmps150
  go_wp2_with fail
  refine (C1 _).mono ?_
  rintro e w1 ⟨bw, btb, rfl, k1, k2, hE⟩
  have hfin : BelOut bt s w (.returned (.func (.func 195) #[] #[.pointer (some ⟨bw, 0, none⟩), .pointer (some ⟨btb, 0, none⟩)])) w1 :=
    ⟨w.heap.size, w.heap.size + 1, ⟨_, _, rfl, k1, k2, ((Ext.alloc w _).trans (Ext.alloc _ _)).trans hE⟩, (hE.cell (p := ⟨w.heap.size, 0, none⟩) (by simp; omega)).trans (H1.out _ _), (hE.cell (p := ⟨w.heap.size + 1, 0, none⟩) (by simp)).trans (H2.out _ _)⟩
  have HFIN := Lib.hid hfin
  clear hfin k1 k2 hE C1
  go_wp2
  go_ret
  exact HFIN.out

theorem below1_any (S : Nat → Prop) (w : World) (bt x y : Nat) (M : List (Key × Nd)) (N : Nat) (hT : TreeAt S w bt M N) (hc : Clo M) (s : ByteArray) (hs : s.size ≤ maxLen) (hN : M.length * 16 ≤ 140737488355328)
    (hx : w.cell? ⟨x, 0, none⟩ = some (.pointer (some ⟨bt, 0, none⟩))) (hy : w.cell? ⟨y, 0, none⟩ = some (.string s)) :
    Calls Tryz.prog 194 #[.pointer (some ⟨x, 0, none⟩), .pointer (some ⟨y, 0, none⟩)] w (SortedOut (UndL M s) w) := by
  have C1 := Lib.hid (under_any S w bt M N hT hc s hs hN)
  clear hT hc
  go_enter Tryz.func194, Tryz.ntmps194
  go_wp2_with fail
  refine C1.out.mono ?_
  rintro e w1 ⟨v, rfl, h1, h2, h3⟩
  have hfin : SortedOut (UndL M s) w (.returned v) w1 := ⟨v, rfl, h1, h2, h3⟩
  have HFIN := Lib.hid hfin
  clear hfin h1 h2 h3 C1 hx hy
  go_wp2
  go_ret
  exact HFIN.out

set_option maxHeartbeats 4000000 in
theorem lbelow_any (S : Nat → Prop) (w : World) (bt : Nat) (M : List (Key × Nd)) (N : Nat) (hT : TreeAt S w bt M N) (hc : Clo M) (s : ByteArray) (hs : s.size ≤ maxLen) (most : Nat) (hmost : most < maxLen) (hks : M.length * 168 ≤ 140737488355328) (hkl : ∀ k ∈ UndL M s, k.length ≤ maxLen) (hlen : (UndL M s).length ≤ M.length) :
    Calls Tryz.prog 88 #[.pointer (some ⟨bt, 0, none⟩), .string s, .int .i64 most] w (AllOut ((nodesOf M (UndL M s)).take (most + 1)) w) := by
  have HT := Lib.hid hT
  clear hT
  refine (callsIn_wide (n := 6)).1 (callsIn_of_wp_marks Tryz.func88 rfl trivial ?_)
  simp only [Tryz.ntmps88, List.size_toArray, List.length_cons, List.length_nil, Nat.reduceAdd, Nat.reduceSub, Array.replicate_succ, Array.replicate_zero, List.push_toArray, List.append_toArray, List.nil_append, List.cons_append]
  gi_wp2_with fail
  refine ⟨trivial, (callsIn_wide.2 (tbelow_any bt s _)).mono ?_⟩
  rintro e W1 ⟨cx, cy, ⟨bw, btb, rfl, hcw, hct, hE1⟩, hcx, hcy⟩
  have hbx : ((w.alloc (.cells #[.int .i64 most] 3)).alloc (.cells #[.slice none 0 0] 50)).heap[w.heap.size + 1]? = some (.cells #[.slice none 0 0] 50 (0, 0)) := by
    have := heap_alloc_new (w.alloc (.cells #[.int .i64 most] 3)) (.cells #[.slice none 0 0] 50)
    rwa [World.size_alloc] at this
  have hbm : ((w.alloc (.cells #[.int .i64 most] 3)).alloc (.cells #[.slice none 0 0] 50)).heap[w.heap.size]? = some (.cells #[.int .i64 most] 3 (0, 0)) :=
    (heap_alloc_old _ _ (by simp)).trans (heap_alloc_new w _)
  have hbx1 := (hE1.block _ (Array.getElem?_eq_some_iff.1 hbx).1).trans hbx
  have hbm1 := (hE1.block _ (Array.getElem?_eq_some_iff.1 hbm).1).trans hbm
  have hEw : Ext w W1 := ((Ext.alloc w _).trans (Ext.alloc _ _)).trans hE1
  have hz1 := hE1.size
  simp only [World.size_alloc] at hz1
  have hT1 := HT.out.ext hEw
  have hbd := HT.out.bound
  have hI0 : AllI W1.heap.size (w.heap.size + 1) w.heap.size w most [] [] (.slice none 0 0) W1 :=
    ⟨rfl, hbx1, hbm1, World.ownsRow_nil _ _ _ _, by simp, Nat.le_refl _, hEw⟩
  have hs1 : ∀ k, S k → SafeO (w.heap.size + 1) W1 k := fun k hk => ⟨by have := hbd k hk; omega, _, cell_of_row _ _ _ _ _ _ hbx1, by simp [Value.ownBlock]⟩
  have hOk := hT1.ok
  have TT := told_tells (SafeO (w.heap.size + 1)) S W1 bt M N hT1 hs1 bw btb 194 #[] #[.pointer (some ⟨cx, 0, none⟩), .pointer (some ⟨cy, 0, none⟩)] hcw hct (enters_of Tryz.func194 (by kernel_rfl) rfl) (UndL M s)
    (fun W hW => below1_any S W bt cx cy M N (hT1.ext hW) hc s hs (by omega) ((hW.cell (p := ⟨cx, 0, none⟩) (World.block_lt_of_cell? _ _ hcx)).trans hcx) ((hW.cell (p := ⟨cy, 0, none⟩) (World.block_lt_of_cell? _ _ hcy)).trans hcy)) (by omega) hkl
  have TT := Lib.hid TT
  have hnn := told_not_nil #[.pointer (some ⟨bw, 0, none⟩), .pointer (some ⟨btb, 0, none⟩)] W1
  have HI0 := Lib.hid hI0
  clear hbx hbm hbx1 hbm1 hE1 hT1 hbd hs1 hI0 hcw hct HT hEw hcx hcy
  generalize UndL M s = ks at *
  gi_wp2
  refine wpIn_tells rfl (by omega) (gf := 195) (lb := #[.pointer (some ⟨bw, 0, none⟩), .pointer (some ⟨btb, 0, none⟩)]) rfl trivial (enters_of Tryz.func195 (by kernel_rfl) rfl) TT.out (fun _ => rfl)
    (AllR (w.heap.size + 1) w.heap.size W1.heap.size w most) (AllX (w.heap.size + 1) w.heap.size W1.heap.size w most)
    (AllA fun p c => { tmps := #[.pointer (some ⟨bt, 0, none⟩), .string s, .int .i64 most, undef, undef, .pointer (some ⟨w.heap.size, 0, none⟩), .slice none 0 0, .pointer (some ⟨w.heap.size + 1, 0, none⟩), .func (.func 195) #[] #[.pointer (some ⟨bw, 0, none⟩), .pointer (some ⟨btb, 0, none⟩)], p, .pointer (some ⟨bt, 0, none⟩), .string s, .func (.func 195) #[] #[.pointer (some ⟨bw, 0, none⟩), .pointer (some ⟨btb, 0, none⟩)], .func (.func 195) #[] #[.pointer (some ⟨bw, 0, none⟩), .pointer (some ⟨btb, 0, none⟩)], .bool false, .func (.func 195) #[] #[.pointer (some ⟨bw, 0, none⟩), .pointer (some ⟨btb, 0, none⟩)], c, undef, undef, undef, undef, undef, undef, undef, undef, undef], defers := [] })
    (fun A X Y B h1 h2 h3 => keepS_turn h1 h2 h3) ?hI ?hIx (fun x X Y h1 h2 => gs_turn h1 h2) ?hAx ⟨[], _, HI0.out, Nat.zero_le _⟩ ?assign ?body ?done ?stop
  case hI =>
    rintro pre X Y ⟨vs, v, h, hl⟩ hT
    obtain ⟨h1, h2, h3⟩ := allI_turn h hT (by omega) (by omega)
    exact ⟨⟨vs, v, h1, hl⟩, h2, h3⟩
  case hIx =>
    rintro c pre X Y ⟨hc, vs, v, h, hl⟩ hT
    exact ⟨hc, vs, v, (allI_turn h hT (by omega) (by omega)).1, hl⟩
  case hAx =>
    rintro x a' X Y ⟨bl, cs, h1, h2, h3⟩ hT
    exact ⟨bl, cs, h1, hT.cells h2, h3⟩
  case assign =>
    rintro l pre ⟨xv, n⟩ W K ⟨vs, v, hI, hl⟩ hG hK
    obtain ⟨da, dc, aa, ac, e, _⟩ := hG
    dsimp only at e
    subst e
    obtain ⟨W2, hW2⟩ : ∃ W2, W2 = W.alloc (.cells (ndC n (.slice da n.data.length dc) (.slice aa n.acl.length ac)) 44) := ⟨_, rfl⟩
    have hax := hK _ W2 (by rw [hW2]; exact Ext.alloc _ _) ⟨W.heap.size, _, rfl, by rw [hW2]; exact heap_alloc_new W _, rfl⟩
    have HSET := Lib.hid ((setRow_alloc W zeroNd (ndC n (.slice da n.data.length dc) (.slice aa n.acl.length ac)) 44).trans hW2.symm)
    have HNew := Lib.hid (heap_alloc_new W (.cells zeroNd 44))
    have HAX := Lib.hid hax
    unfold ndC at HSET HAX ⊢
    unfold zeroNd at HSET HNew
    clear hK hI hW2 hax TT HI0
    gi_wp2_with (refine wpListIn_store_row (fun _ => trivial) rfl 44 (.tmp 9) (.tmp 16) rfl W.heap.size _ rfl rfl 44 _ HNew.out sizeNd rfl (cells_node n da aa _ _ dc ac) ?_; rw [HSET.out])
    exact HAX.out
  case body =>
    rintro l pre ⟨xv, n⟩ a' W hl0 _ ⟨rest, hSp⟩ ⟨vs, v, hI, hl⟩ hG ⟨bl, cs, e, hbl, rfl⟩
    dsimp only at e
    subst e
    have hG2 := hG
    obtain ⟨da, dc, aa, ac, e, _⟩ := hG
    simp only [Value.agg.injEq] at e
    subst e
    have hpl : pre.length + 1 ≤ M.length := by
      have := congrArg List.length hSp
      simp [nodesOf] at this
      omega
    have hv : W.cell? ⟨w.heap.size + 1, 0, none⟩ = some v := cell_of_row _ _ _ _ _ _ hI.box
    have hs17 : Cells (W.alloc (.cells (ndC n (.slice da n.data.length dc) (.slice aa n.acl.length ac)) 44)).heap.size (W.alloc (.cells (ndC n (.slice da n.data.length dc) (.slice aa n.acl.length ac)) 44)) (some ⟨W.heap.size, 0, none⟩) (ndC n (.slice da n.data.length dc) (.slice aa n.acl.length ac)).toList := fun j u hj => by
      refine ⟨_, 0, rfl, by simp, ?_⟩
      rw [Nat.zero_add, cell_of_row _ _ _ _ _ _ (heap_alloc_new W _)]
      simpa using hj
    have hsrc : Src Tryz.prog 17 50 (.slice (some ⟨W.heap.size, 0, none⟩) 1 1) 1 (ndC n (.slice da n.data.length dc) (.slice aa n.acl.length ac)).toList (W.alloc (.cells (ndC n (.slice da n.data.length dc) (.slice aa n.acl.length ac)) 44)) :=
      hs17.src Tryz.underlying50 1 1 (by simp [ndC]) (fun u hu => by
        have := cells_node n da aa n.data.length n.acl.length dc ac
        rw [← Array.all_toList] at this
        exact List.all_eq_true.1 this u hu)
    obtain ⟨i0, hi, hz0, hz1', hz2⟩ := info_parts infoNd
    have hownA := hI.row.alloc (.cells (ndC n (.slice da n.data.length dc) (.slice aa n.acl.length ac)) 44)
    have hszB := hI.size
    have HI := Lib.hid hI
    have HG := Lib.hid hG2
    have HBL := Lib.hid hbl
    unfold ndC at hsrc hownA HBL
    clear hs17 TT HI0 hI hG2 hbl
    gi_wp2_with (first | (refine wpListIn_load_row (fun _ => trivial) rfl 44 (.tmp 9) rfl bl rfl 44 _ (0, 0) _ HBL.out Tryz.underlying44 rfl sizeNd ?_) | (gi_at_builtin; refine wpListIn_append_src (fun _ => trivial) rfl (.tmp 17) (.tmp 19) 50 50 rfl W1.heap.size 44 i0 (.agg zeroNd) 17 168 Tryz.underlying50 hi hz0 hz1' hz2 rfl (by decide) _ pre.length _ rfl hownA _ 1 _ rfl hsrc ?c1 ?c2 ?c3 ?_))
    case c1 => unfold maxLen at *; omega
    case c2 => omega
    case c3 => first | omega | (simp; omega)
    intro v' w5 hown5 hg5 _ ho5
    rw [show [Value.string n.path, .slice da n.data.length dc, .slice aa n.acl.length ac, .int .i64 n.owner, .int .i64 n.czxid, .int .i64 n.mzxid, .int .i64 n.pzxid, .int .i64 n.azxid, .int .i64 n.qzxid, .int .i64 n.ctime, .int .i64 n.mtime, .int .i32 n.version, .int .i32 n.creates, .int .i32 n.aversion, .bool n.has, .int .i64 n.count, .int .i64 n.bytes] = (ndC n (.slice da n.data.length dc) (.slice aa n.acl.length ac)).toList from rfl] at hown5
    obtain ⟨hI6, hR6, hK6, hbo5⟩ := allI_step HI.out (by omega) (by omega) (by omega) (by omega) HG.out hown5 hg5 ho5
    obtain ⟨la, lc, rfl, _⟩ := ownsRow_from hown5
    have hv6 : (w5.setRow (w.heap.size + 1) #[.slice la (pre.length + 1) lc]).cell? ⟨w.heap.size + 1, 0, none⟩ = some (.slice la (pre.length + 1) lc) := cell_of_row _ _ _ _ _ _ hI6.box
    have hm6 : (w5.setRow (w.heap.size + 1) #[.slice la (pre.length + 1) lc]).cell? ⟨w.heap.size, 0, none⟩ = some (.int .i64 most) := cell_of_row _ _ _ _ _ _ hI6.lim
    obtain ⟨W6, hW6⟩ : ∃ W6, W6 = w5.setRow (w.heap.size + 1) #[.slice la (pre.length + 1) lc] := ⟨_, rfl⟩
    rw [← hW6] at hv6 hm6 hI6 hR6 hK6
    have HW6 := Lib.hid hW6
    have HB5 := Lib.hid hbo5
    have HI6 := Lib.hid hI6
    have HR6 := Lib.hid hR6
    have HK6 := Lib.hid hK6
    clear hW6 hbo5 hI6 hR6 hK6 hown5 hg5 ho5 hsrc hownA hv
    refine wpListIn_skipped (fun _ => trivial) rfl (fun c h => by cases h) (run_store_one 50 (.tmp 7) (.tmp 20) rfl (w.heap.size + 1) (.slice la (pre.length + 1) lc) rfl rfl rfl 50 v HB5.out infoSl) ?_
    rw [← HW6.out]
    gi_wp2
    · exact ⟨HR6.out, rfl, _, _, HI6.out, by simp; omega⟩
    · exact ⟨HR6.out, HK6.out, _, _, HI6.out, by simp; omega⟩
  case done =>
    rintro D xs W hD hS ⟨vs, v, hI, hl⟩ hK
    have hv : W.cell? ⟨w.heap.size + 1, 0, none⟩ = some v := cell_of_row _ _ _ _ _ _ hI.box
    have hfin := allOut_of (allI_turn hI (Turn.putObj (.deferred none) hD hK rfl) (by omega) (by omega)).1 (by omega) hS
    rw [← List.take_of_length_le (l := nodesOf M ks) (i := most + 1) (by rw [← hS]; simp; omega)] at hfin
    have HFIN := Lib.hid hfin
    have HK := Lib.hid hK
    clear hfin hK hI hS TT HI0
    gi_wp2
    refine ⟨by simp, .inl ⟨_, _, rfl, run_takeDeferred HK.out, ?_⟩⟩
    refine ⟨_, results_tmp rfl _ _ _, ?_⟩
    exact HFIN.out
  case stop =>
    rintro D c pre W hD ⟨rest, hS⟩ ⟨rfl, vs, v, hI, hl⟩ hK
    have hv : W.cell? ⟨w.heap.size + 1, 0, none⟩ = some v := cell_of_row _ _ _ _ _ _ hI.box
    have hfin := allOut_of (allI_turn hI (Turn.putObj (.deferred none) hD hK rfl) (by omega) (by omega)).1 (by omega) (ns := (nodesOf M ks).take (most + 1)) (by rw [← hS, List.take_append_of_le_length (by simp [hl]), List.take_of_length_le (by simp [hl])])
    have HFIN := Lib.hid hfin
    have HK := Lib.hid hK
    clear hfin hK hI hS TT HI0
    gi_wp2
    refine ⟨by simp, .inl ⟨_, _, rfl, run_takeDeferred HK.out, ?_⟩⟩
    refine ⟨_, results_tmp rfl _ _ _, ?_⟩
    exact HFIN.out
end Go.Proofs.YthinpbdbhijbgaaGreatDoor
namespace Go.Proofs.YthinpbdbhijbgaaGreatDoor
open Go.RowKit Go.Sort
set_option maxHeartbeats 2000000
set_option maxRecDepth 100000

theorem zeroNd_one : zeroNd.all (·.oneCell') = true := by simp [zeroNd, Value.oneCell']
end Go.Proofs.YthinpbdbhijbgaaGreatDoor
namespace Go.Proofs.YthinpbdbhijbgaaGreatDoor
open Go.RowKit Go.Sort
set_option maxHeartbeats 4000000
set_option maxRecDepth 100000

/-- What is found stands where it was found. -/
theorem rfind_node {M : List (Key × Nd)} (hM : MOk M) (s : ByteArray) {y : Nd} (hg : mget M s.data.toList = some y) : (rfind (nds M) s).1 < (nds M).length ∧ (nds M)[(rfind (nds M) s).1]? = some y := by
  have h2 := rfind_there hM.sorted hM.key s
  rw [hg] at h2
  obtain ⟨n, hn, hp⟩ := rfind_lt (nds M) s h2
  have hl := (List.getElem?_eq_some_iff.1 hn).1
  refine ⟨hl, ?_⟩
  rw [hn]
  have hm : n ∈ nds M := List.mem_of_getElem? hn
  obtain ⟨x, hx, rfl⟩ := List.mem_map.1 hm
  have hk := hM.key x hx
  have : mget M x.1 = some x.2 := mget_of_mem hM.sorted hx
  rw [hk] at this
  unfold keyN at this
  rw [hp, hg] at this
  exact this.symm

theorem setRow_same (w : World) (g : Nat) (cs : Array Value) (t : TypeId) (h : w.heap[g]? = some (.cells cs t (0, 0))) : w.setRow g cs = w := by
  refine world_ext ?_ rfl rfl rfl rfl
  apply Array.ext_getElem?
  intro i
  by_cases hi : i = g
  · subst hi
    rw [setRow_heap _ _ _ _ _ _ h, h]
  · rw [setRow_other _ _ _ _ hi]

/-- A node stored into the result's box. -/
theorem getOut_store (M : List (Key × Nd)) (s : ByteArray) (b : Bool) (m : Nd) (w w3 : World) (cs0 : Array Value) (B0 : Nat) (hB0 : w.heap.size < B0) (v : Value) (hE : Ext w w3) (hr : w3.heap[w.heap.size]? = some (.cells cs0 44 (0, 0))) (hN : NdS (fun k => B0 ≤ k ∧ k < w3.heap.size) w3 v m) :
    ∃ da dc aa ac, v = .agg (ndC m (.slice da m.data.length dc) (.slice aa m.acl.length ac)) ∧ (w3.setRow w.heap.size (ndC m (.slice da m.data.length dc) (.slice aa m.acl.length ac))).heap[w.heap.size]? = some (.cells (ndC m (.slice da m.data.length dc) (.slice aa m.acl.length ac)) 44 (0, 0)) ∧
      NdS (fun b => w.heap.size ≤ b ∧ b < (w3.setRow w.heap.size (ndC m (.slice da m.data.length dc) (.slice aa m.acl.length ac))).heap.size) (w3.setRow w.heap.size (ndC m (.slice da m.data.length dc) (.slice aa m.acl.length ac))) v m ∧
      Ext w (w3.setRow w.heap.size (ndC m (.slice da m.data.length dc) (.slice aa m.acl.length ac))) := by
  obtain ⟨da, dc, aa, ac, rfl, h1, h2⟩ := hN
  refine ⟨da, dc, aa, ac, rfl, ?_⟩
  generalize hcs : ndC m (.slice da m.data.length dc) (.slice aa m.acl.length ac) = cs
  have hs4 : (w3.setRow w.heap.size cs).heap.size = w3.heap.size := by simp [World.setRow]
  have hb4 : Ext w (w3.setRow w.heap.size cs) := hE.trans' ⟨rfl, rfl, rfl, by rw [hs4]; exact Nat.le_refl _, fun k hk => setRow_other _ _ _ _ (by omega)⟩
  have hk : ∀ (b o : Nat) u, (B0 ≤ b ∧ b < w3.heap.size) → w3.cell? ⟨b, o, none⟩ = some u → (w3.setRow w.heap.size cs).cell? ⟨b, o, none⟩ = some u := fun b o u hb hu =>
    (World.cell?_of_block (setRow_other _ _ _ _ (show b ≠ w.heap.size by have := hb.1; omega))).trans hu
  exact ⟨setRow_heap w3 w.heap.size _ cs 44 (0, 0) hr, ⟨da, dc, aa, ac, by rw [hcs], h1.imp (fun b hb => ⟨by omega, by omega⟩) hk, h2.imp (fun b hb => ⟨by omega, by omega⟩) hk⟩, hb4⟩

theorem rget_any (w : World) (b : Nat) (M : List (Key × Nd)) (hR : RT w b (nds M)) (hM : MOk M) (s : ByteArray) (hs : s.size ≤ 9223372036854775800) : Calls Tryz.prog 79 #[.pointer (some ⟨b, 0, none⟩), .string s] w (GetOut M s w) := by
  obtain ⟨W1, hW1⟩ : ∃ W1, W1 = w.alloc (.cells zeroNd 44) := ⟨_, rfl⟩
  have hE1 : Ext w W1 := by rw [hW1]; exact Ext.alloc _ _
  have hz1 : W1.heap.size = w.heap.size + 1 := by rw [hW1]; simp
  have hr1 : W1.heap[w.heap.size]? = some (.cells zeroNd 44 (0, 0)) := by rw [hW1]; exact heap_alloc_new w _
  have hR1 := hR.ext hE1
  have CF := rfind_any _ W1 b (nds M) hR1 (nds_fit hM) s hs
  rw [rfind_isSome hM s] at CF
  cases hg : mget M s.data.toList with
  | none =>
    rw [hg] at CF
    have HS := fun W : World => Lib.hid (fun (h : W.heap[w.heap.size]? = some (.cells zeroNd 44 (0, 0))) => setRow_same W w.heap.size zeroNd 44 h)
    have HW1 := Lib.hid hW1
    have HR1 := Lib.hid hr1
    have HE1 := Lib.hid hE1
    have CF := Lib.hid CF
    have HG := Lib.hid hg
    unfold zeroNd at HW1
    clear hW1 hr1 hE1 hR1 hR hg
    go_enter Tryz.func79, Tryz.ntmps79
    go_wp2_with fail
    rw [← HW1.out]
    refine CF.out.mono ?_
    rintro e W2 ⟨rfl, hE2⟩
    have hE2 : Ext W1 W2 := hE2
    have hr2 := (hE2.block w.heap.size (by omega)).trans HR1.out
    have HR2 := Lib.hid hr2
    have hS2 := (HS W2).out hr2
    have HS2 := Lib.hid hS2
    have HE2 := Lib.hid (HE1.out.trans hE2)
    unfold zeroNd at HS2
    clear hE2 hr2 hS2 HS CF HW1
    go_wp2_with (refine wpList_store_row rfl 44 (.tmp 4) (.tmp 19) rfl w.heap.size _ rfl rfl 44 _ HR2.out sizeNd rfl zeroNd_one ?_; rw [HS2.out])
    have hfin : GetOut M s w (.returned (.tuple #[.agg zeroNd, .bool false])) W2 := ⟨_, by rw [HG.out]; rfl, by rw [HG.out]; exact zeroN_nds _ _, HE2.out⟩
    refine bodyPost_ret (v := .tuple #[.agg zeroNd, .bool false]) ?_ rfl hfin
    exact results_cell_row2 (p := 4) (q := 5) (ty := 44) rfl _ _ w.heap.size 44 _ (0, 0) _ _ rfl rfl HR2.out Tryz.underlying44 rfl sizeNd
  | some y =>
    rw [hg] at CF
    obtain ⟨hlt, hy⟩ := rfind_node hM s hg
    have hfy := nds_fit hM y (List.mem_of_getElem? hy)
    obtain ⟨a, cap, vs, hb, hl, hcm, hS, hrows, _⟩ := hR1
    obtain ⟨bl, off, da, dc, aa, ac, ea, hSb, hc, hD, hA, _⟩ := hrows.row hy
    subst ea
    have hlt2 : (rfind (nds M) s).1 < M.length := by rwa [nds_length] at hlt
    generalize (rfind (nds M) s).1 = k at *
    have hcb : W1.cell? ⟨b, 0, none⟩ = some (.slice (some ⟨bl, off, none⟩) (nds M).length cap) := cell_of_row _ _ _ _ _ _ hb
    have hbl := (Array.getElem?_eq_some_iff.1 hb).1
    have hl64 : (nds M).length ≤ 9223372036854775807 := by unfold maxLen at hcm; omega
    have HW1 := Lib.hid hW1
    have HR1 := Lib.hid hr1
    have HE1 := Lib.hid hE1
    have HCB := Lib.hid hcb
    have HC := Lib.hid hc
    have HS := Lib.hid hS
    have HD := Lib.hid (hD.cells fun b hb => (hS b hb).1)
    have HA := Lib.hid (hA.cells fun b hb => (hS b hb).1)
    have CF := Lib.hid CF
    have HG := Lib.hid hg
    unfold zeroNd at HW1
    clear hW1 hr1 hE1 hR hg hcb hc hS hD hA hb hrows hy hlt2
    go_enter Tryz.func79, Tryz.ntmps79
    go_wp2_with fail
    rw [← HW1.out]
    refine CF.out.mono ?_
    rintro e W2 ⟨rfl, hE2⟩
    have hE2 : Ext W1 W2 := hE2
    have hz2 := hE2.size
    have hr2 := (hE2.block w.heap.size (by omega)).trans HR1.out
    have hcb2 : W2.cell? ⟨b, 0, none⟩ = some (.slice (some ⟨bl, off, none⟩) (nds M).length cap) := (hE2.cell (p := ⟨b, 0, none⟩) hbl).trans HCB.out
    have hcw : ∀ j u, (ndC y (.slice da y.data.length dc) (.slice aa y.acl.length ac))[j]? = some u → W2.cell? ((⟨bl, off + k * 17, none⟩ : Addr).add j) = some u := fun j u hj => by
      rw [addr_add, hE2.cell (p := ⟨bl, off + k * 17 + j, none⟩) (HS.out bl hSb).1]
      exact HC.out j u hj
    have CC := Lib.hid (rclone_new y da aa dc ac W2 hfy (HD.out.ext hE2) (HA.out.ext hE2))
    have HR2 := Lib.hid hr2
    have HE2 := Lib.hid (HE1.out.trans hE2)
    have HC2 := Lib.hid hcw
    unfold ndC at HC2
    clear hE2 hr2 CF HW1 hcw HC HD HA HS HCB
    go_wp2_with (refine wpList_load_at rfl 44 (.tmp 25) rfl _ rfl _ _ HC2.out Tryz.underlying44 rfl sizeNd ?_)
    refine CC.out.mono ?_
    rintro e W3 ⟨v, rfl, hN, hE3⟩
    have hE3 : Ext W2 W3 := hE3
    have hr3 := (hE3.block w.heap.size (by omega)).trans HR2.out
    obtain ⟨va, vc, vb, vd, rfl, hr4, hN4, hE4⟩ := getOut_store M s true y w W3 _ W2.heap.size (by omega) v (HE2.out.trans hE3) hr3 hN
    have hfin : GetOut M s w (.returned (.tuple #[.agg (ndC y (.slice va y.data.length vc) (.slice vb y.acl.length vd)), .bool true])) _ := ⟨_, by rw [HG.out]; rfl, by rw [HG.out]; exact hN4, hE4⟩
    have HR3 := Lib.hid hr3
    have HR4 := Lib.hid hr4
    have HFIN := Lib.hid hfin
    clear hE3 hr3 hr4 hN hN4 hE4 hfin CC HC2 hcb2
    go_wp2_with (refine wpList_store_row rfl 44 (.tmp 4) (.tmp 27) rfl w.heap.size _ rfl rfl 44 _ HR3.out sizeNd rfl (cells_node y va vb _ _ vc vd) ?_)
    refine bodyPost_ret (v := .tuple #[.agg (ndC y (.slice va y.data.length vc) (.slice vb y.acl.length vd)), .bool true]) ?_ rfl HFIN.out
    exact results_cell_row2 (p := 4) (q := 5) (ty := 44) rfl _ _ w.heap.size 44 _ (0, 0) _ _ rfl rfl HR4.out Tryz.underlying44 rfl sizeNd
end Go.Proofs.YthinpbdbhijbgaaGreatDoor
namespace Go.Proofs.YthinpbdbhijbgaaGreatDoor
open Go.RowKit
set_option maxHeartbeats 4000000
set_option maxRecDepth 100000

/-- The document's tree behind a call: its rows in old blocks or new ones. -/
def RTo (S : Nat → Prop) (w : World) (b : Nat) (M : List (Key × Nd)) (v : Value) (e : Ending) (w' : World) : Prop :=
  e = .returned v ∧ RTree (fun k => S k ∨ (w.heap.size ≤ k ∧ k < w'.heap.size)) w' b (nds M) ∧ Chg (· = b) w w'
theorem RTree.more {S : Nat → Prop} {w w' : World} {b : Nat} {L : List Nd} (h : RTree S w b L) (hE : Ext w w') : RTree (fun k => S k ∨ (w.heap.size ≤ k ∧ k < w'.heap.size)) w' b L :=
  h.keep (fun _ h => .inl h) (hE.block b h.lt) (fun k hk => hE.block k (h.bound k hk).1) fun k hk => by
    have hb := h.lt
    rcases hk with hk | hk
    · have := h.bound k hk; exact ⟨Nat.lt_of_lt_of_le this.1 hE.size, this.2⟩
    · exact ⟨hk.2, by omega⟩
theorem RTo.same {S : Nat → Prop} {w w' : World} {b : Nat} {M : List (Key × Nd)} (h : RTree S w b (nds M)) (hE : Ext w w') (v : Value) : RTo S w b M v (.returned v) w' := ⟨rfl, h.more hE, Chg.of_ext hE⟩
theorem RTree.tail {S : Nat → Prop} {w X w' : World} {b : Nat} {L : List Nd} (hE : Ext w X) (h : RTree (fun k => S k ∨ (X.heap.size ≤ k ∧ k < w'.heap.size)) w' b L) (hb : b < w.heap.size) : RTree (fun k => S k ∨ (w.heap.size ≤ k ∧ k < w'.heap.size)) w' b L :=
  h.keep (fun k hk => hk.imp id fun h => ⟨Nat.le_trans hE.size h.1, h.2⟩) rfl (fun _ _ => rfl) fun k hk => by
    rcases hk with hk | hk
    · exact h.bound k (.inl hk)
    · exact ⟨hk.2, by omega⟩
theorem RTree.soft {S S' : Nat → Prop} {w : World} {b : Nat} {L : List Nd} (h : RTree S w b L) (hS : ∀ k, S k → S' k) (hS' : ∀ k, S' k → k < w.heap.size ∧ k ≠ b) : RTree S' w b L := h.keep hS rfl (fun _ _ => rfl) hS'

theorem cellP {w w' : World} (hE : Ext w w') {p : Addr} {u : Value} (hu : w.cell? p = some u) : w'.cell? p = some u := (hE.cell (World.block_lt_of_cell? _ _ hu)).trans hu
theorem mget_empty {M : List (Key × Nd)} (hM : MOk M) : mget M [] = none := mget_none_of fun x hx e => by
  have h1 := (vpath_facts (right_vpath (hM.right x hx))).1
  have h2 := hM.key x hx
  rw [e] at h2
  have h3 : x.2.path.data.toList = [] := h2.symm
  have h4 : x.2.path.size = 0 := by rw [← size_list, h3]; rfl
  omega

theorem radd_s (S : Nat → Prop) (w : World) (b : Nat) (M : List (Key × Nd)) (hR : RTree S w b (nds M)) (hM : MOk M) (n : Nd) (da aa : Option Addr) (dc ac : Nat) (hu : Tabs w) (hf : Fit n) (hl : (M.length + 1) * 168 ≤ 140737488355328)
    (hD : Cells w.heap.size w da (n.data.map u8v)) (hA : Cells w.heap.size w aa (acCs n.acl)) :
    Calls Tryz.prog 78 #[.pointer (some ⟨b, 0, none⟩), .agg (ndC n (.slice da n.data.length dc) (.slice aa n.acl.length ac))] w (RTo S w b (addM M n) (.int .i64 (addE M n))) := by
  have hbl := hR.lt
  obtain ⟨W1, hW1⟩ : ∃ W1, W1 = w.alloc (.cells (ndC n (.slice da n.data.length dc) (.slice aa n.acl.length ac)) 44) := ⟨_, rfl⟩
  have hE1 : Ext w W1 := by rw [hW1]; exact Ext.alloc _ _
  have hz1 : W1.heap.size = w.heap.size + 1 := by rw [hW1]; simp
  have hn1 : W1.heap[w.heap.size]? = some (.cells (ndC n (.slice da n.data.length dc) (.slice aa n.acl.length ac)) 44 (0, 0)) := by rw [hW1]; exact heap_alloc_new w _
  have CR := rright_any n da aa dc ac W1 hf (hu.below hE1 hu.size) (hA.ext hE1)
  have HR := Lib.hid hR
  have HM := Lib.hid hM
  have HD := Lib.hid hD
  have HA := Lib.hid hA
  have HE1 := Lib.hid hE1
  have HN1 := Lib.hid hn1
  have HNW := Lib.hid (hW1 ▸ hn1)
  rw [hW1] at CR
  have HW1 := Lib.hid hW1
  unfold ndC at CR HN1 HNW HW1 ⊢
  have CR := Lib.hid CR
  have HF := Lib.hid hf
  have hps := hf.path
  clear hR hM hD hA hE1 hn1 hW1 hu hf
  go_enter Tryz.func78, Tryz.ntmps78
  go_wp2_with (refine wpList_load_row rfl 44 (.tmp 3) rfl w.heap.size rfl 44 _ (0, 0) _ HNW.out Tryz.underlying44 rfl sizeNd ?_)
  refine CR.out.mono ?_
  rintro e w2 ⟨rfl, hE2⟩
  rw [← HW1.out] at hE2
  have hE2 : Ext W1 w2 := hE2
  have hEw2 := HE1.out.trans hE2
  by_cases hr : rightN n = 0
  · have hvp := right_vpath hr
    have hn2 := (hE2.block w.heap.size (by omega)).trans HN1.out
    have hp0 : w2.cell? ⟨w.heap.size, 0, none⟩ = some (.string n.path) := by
      rw [cell_of_row _ _ _ _ _ _ hn2]; rfl
    have CF := rfind_any S w2 b (nds M) (HR.out.ext hEw2) (nds_fit HM.out) n.path hps
    rw [rfind_isSome HM.out n.path] at CF
    have CF := Lib.hid CF
    have HE2 := Lib.hid hEw2
    have HN2 := Lib.hid hn2
    have HRT := Lib.hid hr
    rw [hr]
    clear CR hE2 hEw2 HN1 HNW hn2
    cases hg : mget M n.path.data.toList with
    | some y =>
      rw [hg] at CF
      have HV := Lib.hid (show addE M n = 71 by
        unfold addE
        rw [if_neg (by simpa using HRT.out), if_pos (by rw [show mget M (keyN n) = some y from hg]; rfl)])
      have HMM := Lib.hid (show addM M n = M by unfold addM; rw [if_neg (by rw [HV.out]; decide)])
      clear hg hr
      go_wp2_with fail
      refine CF.out.mono ?_
      rintro e w3 ⟨rfl, hE3⟩
      have HFIN := Lib.hid (show RTo S w b (addM M n) (.int .i64 (addE M n)) (.returned (.int .i64 71)) w3 by
        rw [HMM.out, HV.out]
        exact RTo.same HR.out (HE2.out.trans hE3) _)
      clear CF hE3 hp0
      go_wp2
      go_ret
      exact HFIN.out
    | none =>
      rw [hg] at CF
      have HG := Lib.hid (show mget M (keyN n) = none from hg)
      clear hg
      go_wp2_with fail
      refine CF.out.mono ?_
      rintro e w3 ⟨rfl, hE3⟩
      have hE3 : Ext w2 w3 := hE3
      have hEw3 := HE2.out.trans hE3
      have hp3 : w3.cell? ⟨w.heap.size, 0, none⟩ = some (.string n.path) := cellP hE3 hp0
      have hn3 := (hE3.block w.heap.size (by have := HE2.out.size; have := (Array.getElem?_eq_some_iff.1 HN2.out).1; omega)).trans HN2.out
      have HE3 := Lib.hid hEw3
      have HN3 := Lib.hid hn3
      have CP := Lib.hid (rparent_any n.path w3 hps)
      clear CF hE3 hEw3 hp0 hn3 HN2
      by_cases hroot : n.path.size = 1
      · have CP := CP.out
        rw [show parV n.path = .tuple #[.string ⟨#[]⟩, .int .i64 30] by unfold parV; rw [if_neg (fun h => h.2 hroot)]] at CP
        have CP := Lib.hid CP
        have HV := Lib.hid (show addE M n = 73 by
          unfold addE
          rw [if_neg (by simpa using HRT.out), if_neg (by rw [HG.out]; simp), if_pos (.inl hroot)])
        have HMM := Lib.hid (show addM M n = M by unfold addM; rw [if_neg (by rw [HV.out]; decide)])
        clear hroot hr hvp
        go_wp2_with fail
        refine CP.out.mono ?_
        rintro e w4 ⟨rfl, hE4⟩
        have hE4 : Ext w3 w4 := hE4
        have hEw4 := HE3.out.trans hE4
        have CF := rfind_any S w4 b (nds M) (HR.out.ext hEw4) (nds_fit HM.out) ⟨#[]⟩ (by decide)
        rw [rfind_isSome HM.out ⟨#[]⟩, show mget M (⟨#[]⟩ : ByteArray).data.toList = none from mget_empty HM.out] at CF
        have CF := Lib.hid CF
        have HE4 := Lib.hid hEw4
        clear CP hE4 hEw4 hp3
        go_wp2_with fail
        refine CF.out.mono ?_
        rintro e w5 ⟨rfl, hE5⟩
        have HFIN := Lib.hid (show RTo S w b (addM M n) (.int .i64 (addE M n)) (.returned (.int .i64 73)) w5 by
          rw [HMM.out, HV.out]
          exact RTo.same HR.out (HE4.out.trans hE5) _)
        clear CF hE5
        go_wp2
        go_ret
        exact HFIN.out
      · have CP := CP.out
        rw [show parV n.path = .tuple #[.string (parentB n.path), .int .i64 0] by unfold parV; rw [if_pos ⟨hvp, hroot⟩]] at CP
        have CP := Lib.hid CP
        have hpp : (parentB n.path).size ≤ 9223372036854775800 := by
          have := (path_split hvp hroot).2.2.1
          omega
        have HROOT := Lib.hid hroot
        clear hroot hr hvp
        go_wp2_with fail
        refine CP.out.mono ?_
        rintro e w4 ⟨rfl, hE4⟩
        have hE4 : Ext w3 w4 := hE4
        have hEw4 := HE3.out.trans hE4
        have CF := rfind_any S w4 b (nds M) (HR.out.ext hEw4) (nds_fit HM.out) (parentB n.path) hpp
        rw [rfind_isSome HM.out (parentB n.path)] at CF
        have CF := Lib.hid CF
        have HN4 := Lib.hid ((hE4.block w.heap.size (Array.getElem?_eq_some_iff.1 HN3.out).1).trans HN3.out)
        have HE4 := Lib.hid hEw4
        clear CP hE4 hEw4 hp3 HN3
        cases hg : mget M (parentB n.path).data.toList with
        | none =>
          rw [hg] at CF
          have HV := Lib.hid (show addE M n = 73 by
            unfold addE
            rw [if_neg (by simpa using HRT.out), if_neg (by rw [HG.out]; simp), if_pos (.inr hg)])
          have HMM := Lib.hid (show addM M n = M by unfold addM; rw [if_neg (by rw [HV.out]; decide)])
          clear hg
          go_wp2_with fail
          refine CF.out.mono ?_
          rintro e w5 ⟨rfl, hE5⟩
          have HFIN := Lib.hid (show RTo S w b (addM M n) (.int .i64 (addE M n)) (.returned (.int .i64 73)) w5 by
            rw [HMM.out, HV.out]
            exact RTo.same HR.out (HE4.out.trans hE5) _)
          clear CF hE5
          go_wp2
          go_ret
          exact HFIN.out
        | some y =>
          rw [hg] at CF
          have HV := Lib.hid (show addE M n = 0 by
            unfold addE
            rw [if_neg (by simpa using HRT.out), if_neg (by rw [HG.out]; simp), if_neg (fun h => h.elim HROOT.out fun h => by rw [hg] at h; cases h)])
          have HMM := Lib.hid (show addM M n = mput M (keyN n) n by unfold addM; rw [if_pos HV.out])
          clear hg
          go_wp2_with fail
          refine CF.out.mono ?_
          rintro e w5 ⟨rfl, hE5⟩
          have hE5 : Ext w4 w5 := hE5
          have hEw5 := HE4.out.trans hE5
          have HN5 := Lib.hid ((hE5.block w.heap.size (Array.getElem?_eq_some_iff.1 HN4.out).1).trans HN4.out)
          have CI := Lib.hid (rinsert_s S w5 b (nds M) n da aa dc ac (HR.out.ext hEw5) (nds_fit HM.out) HF.out (HD.out.ext hEw5) (HA.out.ext hEw5) (by rw [nds_length]; exact hl))
          have HE5 := Lib.hid hEw5
          unfold ndC at CI
          clear CF hE5 hEw5 HN4
          go_wp2_with (refine wpList_load_row rfl 44 (.tmp 3) rfl w.heap.size rfl 44 _ (0, 0) _ HN5.out Tryz.underlying44 rfl sizeNd ?_)
          refine CI.out.mono ?_
          rintro e w6 ⟨rfl, hR6, hC6⟩
          rw [← rfind_ins HM.out n HG.out, ← HMM.out] at hR6
          have HFIN := Lib.hid (show RTo S w b (addM M n) (.int .i64 (addE M n)) (.returned (.int .i64 0)) w6 from
            ⟨by rw [HV.out], RTree.tail HE5.out hR6 hbl, (Chg.of_ext (S := (· = b)) HE5.out).trans hC6 fun _ _ h => h⟩)
          clear CI hR6 hC6
          go_wp2
          go_ret
          exact HFIN.out
  · have hr1 : (rightN n != 0) = true := by simpa using hr
    have HV := Lib.hid (show addE M n = rightN n by unfold addE; rw [if_pos (by simpa using hr)])
    have HMM := Lib.hid (show addM M n = M by unfold addM; rw [if_neg (by rw [HV.out]; exact hr)])
    have HFIN := Lib.hid (show RTo S w b (addM M n) (.int .i64 (addE M n)) (.returned (.int .i64 (rightN n))) w2 by
      rw [HMM.out, HV.out]
      exact RTo.same HR.out hEw2 _)
    clear hE2 hEw2 CR HV HMM
    go_wp2
    go_ret
    exact HFIN.out

/-- What shows no slice does not show the tree's own block. -/
theorem Cells.chg {w w' : World} {a : Option Addr} {xs : List Value} {b : Nat} {p : Option Addr} {l c : Nat} {ty : TypeId} (h : Cells w.heap.size w a xs) (hb : w.heap[b]? = some (.cells #[.slice p l c] ty (0, 0))) (hx : ∀ u ∈ xs, ∀ p l c, u ≠ .slice p l c) (hC : Chg (· = b) w w') : Cells w'.heap.size w' a xs := fun j u hj => by
  obtain ⟨bb, off, e, hlt, hc⟩ := h j u hj
  refine ⟨bb, off, e, Nat.lt_of_lt_of_le hlt hC.size, ?_⟩
  by_cases eb : bb = b
  · subst eb
    rw [cell_of_row _ _ _ _ _ _ hb] at hc
    cases hk : off + j with
    | zero =>
      rw [hk] at hc
      exact absurd (Option.some.inj hc).symm (hx u (List.mem_of_getElem? hj) _ _ _)
    | succ k => rw [hk] at hc; simp at hc
  · rw [World.cell?_of_block (hC.same bb hlt eb)]; exact hc
theorem u8v_noslice (l : List UInt8) : ∀ u ∈ l.map u8v, ∀ p n c, u ≠ Value.slice p n c := fun u hu p n c e => by
  obtain ⟨x, _, rfl⟩ := List.mem_map.1 hu
  cases e
theorem acCs_noslice (l : List Ac) : ∀ u ∈ acCs l, ∀ p n c, u ≠ Value.slice p n c := fun u hu p n c e => by
  subst e
  unfold acCs at hu
  obtain ⟨a, _, h⟩ := List.mem_flatMap.1 hu
  simp [acC] at h

theorem rput_s (S : Nat → Prop) (w : World) (b : Nat) (M : List (Key × Nd)) (hR : RTree S w b (nds M)) (hM : MOk M) (n : Nd) (da aa : Option Addr) (dc ac : Nat) (hu : Tabs w) (hf : Fit n) (hl : (M.length + 1) * 168 ≤ 140737488355328)
    (hD : Cells w.heap.size w da (n.data.map u8v)) (hA : Cells w.heap.size w aa (acCs n.acl)) :
    Calls Tryz.prog 76 #[.pointer (some ⟨b, 0, none⟩), .agg (ndC n (.slice da n.data.length dc) (.slice aa n.acl.length ac))] w (RTo S w b (putM M n) (.int .i64 (putE M n))) := by
  have hbl := hR.lt
  obtain ⟨W1, hW1⟩ : ∃ W1, W1 = w.alloc (.cells (ndC n (.slice da n.data.length dc) (.slice aa n.acl.length ac)) 44) := ⟨_, rfl⟩
  have hE1 : Ext w W1 := by rw [hW1]; exact Ext.alloc _ _
  have hz1 : W1.heap.size = w.heap.size + 1 := by rw [hW1]; simp
  have hn1 : W1.heap[w.heap.size]? = some (.cells (ndC n (.slice da n.data.length dc) (.slice aa n.acl.length ac)) 44 (0, 0)) := by rw [hW1]; exact heap_alloc_new w _
  have CR := rright_any n da aa dc ac W1 hf (hu.below hE1 hu.size) (hA.ext hE1)
  have HR := Lib.hid hR
  have HM := Lib.hid hM
  have HD := Lib.hid hD
  have HA := Lib.hid hA
  have HE1 := Lib.hid hE1
  have HN1 := Lib.hid hn1
  have HNW := Lib.hid (hW1 ▸ hn1)
  rw [hW1] at CR
  have HW1 := Lib.hid hW1
  unfold ndC at CR HN1 HNW HW1 ⊢
  have CR := Lib.hid CR
  have HF := Lib.hid hf
  have hps := hf.path
  clear hR hM hD hA hE1 hn1 hW1 hu hf
  go_enter Tryz.func76, Tryz.ntmps76
  go_wp2_with (refine wpList_load_row rfl 44 (.tmp 3) rfl w.heap.size rfl 44 _ (0, 0) _ HNW.out Tryz.underlying44 rfl sizeNd ?_)
  refine CR.out.mono ?_
  rintro e w2 ⟨rfl, hE2⟩
  rw [← HW1.out] at hE2
  have hE2 : Ext W1 w2 := hE2
  have hEw2 := HE1.out.trans hE2
  by_cases hr : rightN n = 0
  · have hn2 := (hE2.block w.heap.size (by omega)).trans HN1.out
    have hp0 : w2.cell? ⟨w.heap.size, 0, none⟩ = some (.string n.path) := by
      rw [cell_of_row _ _ _ _ _ _ hn2]; rfl
    have CF := rfind_any S w2 b (nds M) (HR.out.ext hEw2) (nds_fit HM.out) n.path hps
    rw [rfind_isSome HM.out n.path] at CF
    have CF := Lib.hid CF
    have HE2 := Lib.hid hEw2
    have HN2 := Lib.hid hn2
    have HRT := Lib.hid hr
    rw [hr]
    clear CR hE2 hEw2 HN1 HNW hn2
    cases hg : mget M n.path.data.toList with
    | none =>
      rw [hg] at CF
      have HV := Lib.hid (show putE M n = 70 by
        unfold putE
        rw [if_neg (by simpa using HRT.out), if_neg (by rw [show mget M (keyN n) = none from hg]; simp)])
      have HMM := Lib.hid (show putM M n = M by unfold putM; rw [if_neg (by rw [HV.out]; decide)])
      clear hg hr
      go_wp2_with fail
      refine CF.out.mono ?_
      rintro e w3 ⟨rfl, hE3⟩
      have HFIN := Lib.hid (show RTo S w b (putM M n) (.int .i64 (putE M n)) (.returned (.int .i64 70)) w3 by
        rw [HMM.out, HV.out]
        exact RTo.same HR.out (HE2.out.trans hE3) _)
      clear CF hE3 hp0
      go_wp2
      go_ret
      exact HFIN.out
    | some y =>
      rw [hg] at CF
      obtain ⟨hix, _⟩ := rfind_node HM.out n.path hg
      have HV := Lib.hid (show putE M n = 0 by
        unfold putE
        rw [if_neg (by simpa using HRT.out), if_pos (by rw [show mget M (keyN n) = some y from hg]; rfl)])
      have HMM := Lib.hid (show putM M n = mput (mdel M (keyN n)) (keyN n) n by unfold putM; rw [if_pos HV.out, mput_mdel])
      have HTK := Lib.hid (rfind_take HM.out n.path (by rw [hg]; rfl))
      generalize (rfind (nds M) n.path).1 = i at *
      clear hg hr
      go_wp2_with fail
      refine CF.out.mono ?_
      rintro e w3 ⟨rfl, hE3⟩
      have hE3 : Ext w2 w3 := hE3
      have hEw3 := HE2.out.trans hE3
      have HN3 := Lib.hid ((hE3.block w.heap.size (Array.getElem?_eq_some_iff.1 HN2.out).1).trans HN2.out)
      have CT := Lib.hid (rtake_s S w3 b (nds M) i hix (HR.out.ext hEw3) (by rw [nds_length]; omega))
      have HE3 := Lib.hid hEw3
      clear CF hE3 hEw3 hp0 HN2
      go_wp2_with fail
      refine CT.out.mono ?_
      rintro e w4 ⟨rfl, hR4, hC4⟩
      rw [← HTK.out] at hR4
      obtain ⟨ra, rl, rc, hb3⟩ : ∃ ra rl rc, w3.heap[b]? = some (.cells #[.slice ra rl rc] 53 (0, 0)) := by
        obtain ⟨ra, rc, _, h, _⟩ := HR.out.ext HE3.out
        exact ⟨_, _, _, h⟩
      have hD4 := (HD.out.ext HE3.out).chg hb3 (u8v_noslice _) hC4
      have hA4 := (HA.out.ext HE3.out).chg hb3 (acCs_noslice _) hC4
      have hlt3 := (Array.getElem?_eq_some_iff.1 HN3.out).1
      have hne : w.heap.size ≠ b := by omega
      have HN4 := Lib.hid ((hC4.same w.heap.size hlt3 hne).trans HN3.out)
      have hM4 : MOk (mdel M (keyN n)) := HM.out.del _
      have hlen : (mdel M (keyN n)).length ≤ M.length := List.length_filter_le _ _
      have CI := Lib.hid (rinsert_s _ w4 b (nds (mdel M (keyN n))) n da aa dc ac hR4 (nds_fit hM4) HF.out hD4 hA4 (by rw [nds_length]; omega))
      have HINS := Lib.hid (rfind_ins hM4 n (mget_none_of fun x hx => (mem_mdel.1 hx).2))
      have hC34 := (Chg.of_ext (S := (· = b)) HE3.out).trans hC4 fun _ _ h => h
      have HC4 := Lib.hid hC34
      have hz3 := HE3.out.size
      have hz4 := hC4.size
      unfold ndC at CI
      clear CT hR4 hC4 hC34 hb3 hD4 hA4 HN3
      go_wp2_with (refine wpList_load_row rfl 44 (.tmp 3) rfl w.heap.size rfl 44 _ (0, 0) _ HN4.out Tryz.underlying44 rfl sizeNd ?_)
      refine CI.out.mono ?_
      rintro e w6 ⟨rfl, hR6, hC6⟩
      rw [← HINS.out, ← HMM.out] at hR6
      have hz6 := hC6.size
      have HFIN := Lib.hid (show RTo S w b (putM M n) (.int .i64 (putE M n)) (.returned (.int .i64 0)) w6 from
        ⟨by rw [HV.out], hR6.soft (fun k hk => by
          rcases hk with (hk | hk) | hk
          · exact .inl hk
          · exact .inr ⟨by omega, by omega⟩
          · exact .inr ⟨by omega, by omega⟩) (fun k hk => by
          rcases hk with hk | hk
          · exact hR6.bound k (.inl (.inl hk))
          · exact ⟨hk.2, by omega⟩), HC4.out.trans hC6 fun _ _ h => h⟩)
      clear CI hR6 hC6
      go_wp2
      go_ret
      exact HFIN.out
  · have hr1 : (rightN n != 0) = true := by simpa using hr
    have HV := Lib.hid (show putE M n = rightN n by unfold putE; rw [if_pos (by simpa using hr)])
    have HMM := Lib.hid (show putM M n = M by unfold putM; rw [if_neg (by rw [HV.out]; exact hr)])
    have HFIN := Lib.hid (show RTo S w b (putM M n) (.int .i64 (putE M n)) (.returned (.int .i64 (rightN n))) w2 by
      rw [HMM.out, HV.out]
      exact RTo.same HR.out hEw2 _)
    clear hE2 hEw2 CR HV HMM
    go_wp2
    go_ret
    exact HFIN.out

theorem rrem_s (S : Nat → Prop) (w : World) (b : Nat) (M : List (Key × Nd)) (hR : RTree S w b (nds M)) (hM : MOk M) (s : ByteArray) (hs : s.size ≤ 9223372036854775800) (hl : M.length * 168 ≤ 140737488355328) :
    Calls Tryz.prog 77 #[.pointer (some ⟨b, 0, none⟩), .string s] w (RTo S w b (remM M s) (.int .i64 (remE M s))) := by
  have hbl := hR.lt
  have CV := rvalid_any s w hs
  have HR := Lib.hid hR
  have HM := Lib.hid hM
  clear hR hM
  by_cases hv : vpath s = true ∧ s.size ≠ 1
  · have hroot' : ¬ s.data.toList = [47] := fun h => hv.2 ((root_iff hv.1).2 h)
    have e1 : (s.toList == [47]) = false := by rw [ByteArray.toList_eq]; simpa using hroot'
    have e2 : ¬ s.toList = [47] := by simpa using e1
    rw [hv.1] at CV
    have CV := Lib.hid CV
    have HVP := Lib.hid hv
    clear hv hroot'
    go_enter Tryz.func77, Tryz.ntmps77
    go_wp2_with fail
    refine CV.out.mono ?_
    rintro e w2 ⟨rfl, hE2⟩
    have hE2 : Ext w w2 := hE2
    have CF := rfind_any S w2 b (nds M) (HR.out.ext hE2) (nds_fit HM.out) s hs
    rw [rfind_isSome HM.out s] at CF
    have CF := Lib.hid CF
    have HE2 := Lib.hid hE2
    clear CV hE2
    cases hg : mget M s.data.toList with
    | none =>
      rw [hg] at CF
      have HV := Lib.hid (show remE M s = 70 by unfold remE; rw [if_neg (not_not_intro HVP.out), if_pos hg])
      have HMM := Lib.hid (show remM M s = M by unfold remM; rw [if_neg (by rw [HV.out]; decide)])
      clear hg
      go_wp2_with fail
      refine CF.out.mono ?_
      rintro e w3 ⟨rfl, hE3⟩
      have HFIN := Lib.hid (show RTo S w b (remM M s) (.int .i64 (remE M s)) (.returned (.int .i64 70)) w3 by
        rw [HMM.out, HV.out]
        exact RTo.same HR.out (HE2.out.trans hE3) _)
      clear CF hE3
      go_wp2
      go_ret
      exact HFIN.out
    | some y =>
      rw [hg] at CF
      obtain ⟨hix, _⟩ := rfind_node HM.out s hg
      have HTK := Lib.hid (rfind_take HM.out s (by rw [hg]; rfl))
      have HG := Lib.hid hg
      generalize (rfind (nds M) s).1 = i at *
      clear hg
      go_wp2_with fail
      refine CF.out.mono ?_
      rintro e w3 ⟨rfl, hE3⟩
      have hE3 : Ext w2 w3 := hE3
      have hEw3 := HE2.out.trans hE3
      have CK := Lib.hid (rkids_any w3 b M ((HR.out.ext hEw3).rt) HM.out s (by omega))
      have HE3 := Lib.hid hEw3
      clear CF hE3 hEw3
      go_wp2_with fail
      refine CK.out.mono ?_
      rintro e w4 ⟨v, rfl, hown, hE4⟩
      obtain ⟨ka, kc, rfl⟩ : ∃ ka kc, v = .slice ka (kidsOf M s).length kc := by
        rcases hown.2 with ⟨rfl, h0⟩ | ⟨g, cap, cur, rfl, _⟩
        · exact ⟨none, 0, by rw [h0]⟩
        · exact ⟨_, _, rfl⟩
      have hE4 : Ext w3 w4 := hE4
      have hEw4 := HE3.out.trans hE4
      by_cases hk : (kidsOf M s).length = 0
      · have HV := Lib.hid (show remE M s = 0 by unfold remE; rw [if_neg (not_not_intro HVP.out), if_neg (by rw [HG.out]; simp), if_neg (not_not_intro hk)])
        have HMM := Lib.hid (show remM M s = mdel M s.data.toList by unfold remM; rw [if_pos HV.out])
        have CT := Lib.hid (rtake_s S w4 b (nds M) i hix (HR.out.ext hEw4) (by rw [nds_length]; omega))
        have HE4 := Lib.hid hEw4
        rw [hk]
        clear CK hown hE4 hEw4 hk
        go_wp2_with fail
        refine CT.out.mono ?_
        rintro e w5 ⟨rfl, hR5, hC5⟩
        rw [← HTK.out, ← HMM.out] at hR5
        have HFIN := Lib.hid (show RTo S w b (remM M s) (.int .i64 (remE M s)) (.returned (.int .i64 0)) w5 from
          ⟨by rw [HV.out], RTree.tail HE4.out hR5 hbl, (Chg.of_ext (S := (· = b)) HE4.out).trans hC5 fun _ _ h => h⟩)
        clear CT hR5 hC5
        go_wp2
        go_ret
        exact HFIN.out
      · have HV := Lib.hid (show remE M s = 72 by unfold remE; rw [if_neg (not_not_intro HVP.out), if_neg (by rw [HG.out]; simp), if_pos hk])
        have HMM := Lib.hid (show remM M s = M by unfold remM; rw [if_neg (by rw [HV.out]; decide)])
        have HFIN := Lib.hid (show RTo S w b (remM M s) (.int .i64 (remE M s)) (.returned (.int .i64 72)) w4 by
          rw [HMM.out, HV.out]
          exact RTo.same HR.out hEw4 _)
        have hk1 : 0 < (kidsOf M s).length := by omega
        generalize (kidsOf M s).length = kl at *
        clear CK hown hE4 hEw4 hk
        go_wp2
        go_ret
        exact HFIN.out
  · have HV := Lib.hid (show remE M s = 30 by unfold remE; rw [if_pos hv])
    have HMM := Lib.hid (show remM M s = M by unfold remM; rw [if_neg (by rw [HV.out]; decide)])
    have CV := Lib.hid CV
    have HFIN := Lib.hid (show ∀ w3, Ext w w3 → RTo S w b (remM M s) (.int .i64 (remE M s)) (.returned (.int .i64 30)) w3 from fun w3 hE => by
      rw [HMM.out, HV.out]
      exact RTo.same HR.out hE _)
    by_cases hvp : vpath s = true
    · have h1 : s.size = 1 := by
        by_cases h : s.size = 1
        · exact h
        · exact absurd ⟨hvp, h⟩ hv
      have hroot' := (root_iff hvp).1 h1
      have e1 : (s.toList == [47]) = true := by rw [ByteArray.toList_eq]; simpa using hroot'
      have e2 : s.toList = [47] := by simpa using e1
      rw [hvp] at CV
      clear hv hvp h1 hroot' HV HMM
      go_enter Tryz.func77, Tryz.ntmps77
      go_wp2_with fail
      refine CV.out.mono ?_
      rintro e w2 ⟨rfl, hE2⟩
      have HFI := Lib.hid (HFIN.out w2 hE2)
      clear CV hE2 HFIN
      go_wp2
      go_ret
      exact HFI.out
    · have hvp : vpath s = false := by simpa using hvp
      rw [hvp] at CV
      clear hv hvp HV HMM
      go_enter Tryz.func77, Tryz.ntmps77
      go_wp2_with fail
      refine CV.out.mono ?_
      rintro e w2 ⟨rfl, hE2⟩
      have HFI := Lib.hid (HFIN.out w2 hE2)
      clear CV hE2 HFIN
      go_wp2
      go_ret
      exact HFI.out
end Go.Proofs.YthinpbdbhijbgaaGreatDoor
