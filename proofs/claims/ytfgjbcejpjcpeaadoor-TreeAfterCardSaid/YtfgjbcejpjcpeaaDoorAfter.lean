/- The walk of After: a range over the map of nodes, in an order that nobody knows. -/
import Derived.Test.YtfgjbcejpjcpeaaDoorGet
import Derived.Maps.RangeWalk
namespace Go.Proofs.YtfgjbcejpjcpeaaDoor
open Go.RowKit
set_option maxHeartbeats 2000000
set_option maxRecDepth 100000

section
variable {P : Program} {ops : Array Oper} {rest : List Oper} {o : Oper} {a : Act} {Q : Exit → Act → World → Prop}

/-- 'range m' over a map keyed by strings. -/
theorem wpList_range_s (w : World) (hg : o.guard = none) (x : Operand) (t : TypeId) (hop : o.op = Op.range t x) (kt e : TypeId) (hk : P.underlying kt = some .string) (ht : P.underlying t = some (.map kt e)) (b : Nat) (m : List (Key × Value))
    (hm : a.eval x = .map (some b)) (h : SMap P kt w b m)
    (hK : ∀ w', w'.ranges P kt Rv b w.heap.size m.length (kvD m) (Maps.has (kvD m)) (Maps.size (kvD m)) → w.grownBy w' none → w'.heap.size = w.heap.size + 1 → wpList P ops Q rest (a.put o.dst (.pointer (some ⟨w.heap.size, 0, none⟩))) w') :
    wpList P ops Q (o :: rest) a w :=
  wpList_range_own w hg x t hop kt e (Maps.string_keyed hk) ht Rv b _ _ hm h hK

/-- The step of a range over a map keyed by strings. -/
theorem wpList_next_s (w : World) (hg : o.guard = none) (it : Operand) (hop : o.op = Op.next it false) (kt : TypeId) (hk : P.underlying kt = some .string) (b r n : Nat) (m : List (Key × Value)) (left : Lit → Bool) (cnt : Nat)
    (hit : a.eval it = .pointer (some ⟨r, 0, none⟩)) (h : w.ranges P kt Rv b r n (kvD m) left cnt)
    (hDone : (∀ kl, left kl = false) → wpList P ops Q rest (a.put o.dst (.tuple #[.bool false])) w)
    (hMore : ∀ (s : ByteArray) (v : Value) (w' : World) (cnt' : Nat), s.size ≤ maxLen → mget m s.data.toList = some v → w'.ranges P kt Rv b r n (kvD m) (fun z => left z && !z.sameKey (.string s.data.toList)) cnt' → cnt' < cnt →
      w.grownBy w' (some r) → w'.heap.size = w.heap.size → (Instr.entry (.pointer (some ⟨r, 0, none⟩))).run P w' = .ok (.tuple #[.string s, v]) w' → wpList P ops Q rest (a.put o.dst (.tuple #[.bool true, .string s, v])) w') :
    wpList P ops Q (o :: rest) a w :=
  wpList_next_ranges w hg it hop kt (Maps.string_keyed hk) Rv Value.string (id : Value → Value) (fun key kl hkey => by
      simp only [keyOf, hk, mapKey] at hkey
      cases key <;> simp at hkey
      exact ⟨_, rfl⟩) (fun v y _ => ⟨v, rfl⟩) b r n (kvD m) left cnt hit h (fun _ => hDone) fun s v kl y w' cnt' hkey _ hv hat hrg hlt hgr hsz hen => by
    have hkl : kl = .string s.data.toList ∧ s.size ≤ maxLen := by
      simp only [keyOf, hk, mapKey] at hkey
      split at hkey
      · rename_i hs; exact ⟨(Option.some.inj hkey).symm, hs⟩
      · cases hkey
    obtain ⟨rfl, hs⟩ := hkl
    simp only [Rv, id, Option.some.injEq] at hv
    subst hv
    refine hMore s v w' cnt' hs ?_ hrg hlt hgr hsz hen
    have h1 := hat (.held (.bool true))
    have h2 := hat (.held (.bool false))
    rw [kvD_at] at h1 h2
    simp only [DataW.held.injEq] at h1 h2
    cases hq : mget m s.data.toList with
    | some u => rw [hq] at h1; exact congrArg some h1
    | none => rw [hq] at h1 h2; simp at h1 h2; rw [← h1] at h2; cases h2
end

/-- The first behind a text. -/
def afterN (M : List (Key × Nd)) (s : ByteArray) : Option (Key × Nd) := M.find? fun x => bytesBefore s.data.toList x.1

/-- What the rounds of the range have found. -/
structure Aft (M : List (Key × Nd)) (s : Key) (left : Lit → Bool) (best : ByteArray) (found : Bool) : Prop where
  there : found = true → (∃ n, (best.data.toList, n) ∈ M) ∧ bytesBefore s best.data.toList = true
  no : found = false → best = ⟨#[]⟩
  le : ∀ x ∈ M, left (.string x.1) = false → bytesBefore s x.1 = true → found = true ∧ bytesBefore x.1 best.data.toList = false

theorem Aft.step {M : List (Key × Nd)} {s : Key} {left : Lit → Bool} {best : ByteArray} {found : Bool} (h : Aft M s left best found) (p : ByteArray) {n : Nd} (hp : (p.data.toList, n) ∈ M) :
    Aft M s (fun z => left z && !z.sameKey (.string p.data.toList)) (if bytesBefore s p.data.toList = true ∧ (found = false ∨ bytesBefore p.data.toList best.data.toList = true) then p else best)
      (if bytesBefore s p.data.toList = true ∧ (found = false ∨ bytesBefore p.data.toList best.data.toList = true) then true else found) := by
  have hsame : ∀ k : Key, (Lit.string k).sameKey (.string p.data.toList) = (k == p.data.toList) := fun k => rfl
  have tr : ∀ a b c : Key, bytesBefore a b = true → bytesBefore b c = true → bytesBefore a c = true := fun a b c => WideShapes.bytes_trans a b c
  split
  · rename_i hc
    refine ⟨fun _ => ⟨⟨n, hp⟩, hc.1⟩, fun e => (by cases e), fun x hx hl hs => ⟨rfl, ?_⟩⟩
    simp only [hsame, Bool.and_eq_false_iff, Bool.not_eq_false'] at hl
    rcases hl with hl | hl
    · obtain ⟨h1, h2⟩ := h.le x hx hl hs
      rcases hc.2 with h3 | h3
      · rw [h1] at h3; cases h3
      · cases h4 : bytesBefore x.1 p.data.toList with
        | false => rfl
        | true => rw [tr _ _ _ h4 h3] at h2; cases h2
    · have : x.1 = p.data.toList := by simpa using hl
      rw [this, WideAt.bytes_irrefl]
  · rename_i hc
    refine ⟨h.there, h.no, fun x hx hl hs => ?_⟩
    simp only [hsame, Bool.and_eq_false_iff, Bool.not_eq_false'] at hl
    rcases hl with hl | hl
    · exact h.le x hx hl hs
    · have e : x.1 = p.data.toList := by simpa using hl
      rw [e] at hs ⊢
      cases hf : found with
      | false => exact absurd ⟨hs, .inl hf⟩ hc
      | true =>
        refine ⟨rfl, ?_⟩
        cases h4 : bytesBefore p.data.toList best.data.toList with
        | false => rfl
        | true => exact absurd ⟨hs, .inr h4⟩ hc

theorem Aft.done {M : List (Key × Nd)} (hM : MOk M) {s : ByteArray} {left : Lit → Bool} {best : ByteArray} {found : Bool} (h : Aft M s.data.toList left best found) (hl : ∀ kl, left kl = false) :
    (afterN M s).isSome = found ∧ (mget M best.data.toList).getD zeroN = ((afterN M s).map (·.2)).getD zeroN := by
  unfold afterN
  cases hf : M.find? fun x => bytesBefore s.data.toList x.1 with
  | none =>
    have hno := List.find?_eq_none.1 hf
    cases found with
    | true =>
      obtain ⟨⟨n, hn⟩, hs⟩ := h.there rfl
      exact absurd hs (hno _ hn)
    | false =>
      refine ⟨rfl, ?_⟩
      rw [h.no rfl]
      rw [mget_none_of fun x hx => ?_]
      · rfl
      · intro e
        have h1 := (vpath_facts (right_vpath (hM.right x hx))).1
        have h2 := hM.key x hx
        rw [e] at h2
        have h3 : x.2.path.data.toList = [] := h2.symm
        have h4 : x.2.path.size = 0 := by rw [← size_list, h3]; rfl
        omega
  | some y =>
    have hy := List.find?_some hf
    have hm := List.mem_of_find?_eq_some hf
    obtain ⟨h1, h2⟩ := h.le y hm (hl _) (by simpa using hy)
    subst h1
    refine ⟨rfl, ?_⟩
    obtain ⟨⟨n, hn⟩, hs⟩ := h.there rfl
    have hb : best.data.toList = y.1 := by
      by_cases e : best.data.toList = y.1
      · exact e
      · exfalso
        rcases WideAt.bytes_total _ _ e with h3 | h3
        · have hp := List.find?_eq_some_iff_append.1 hf
          obtain ⟨_, l1, l2, e1, h4⟩ := hp
          have hso := hM.sorted
          rw [e1] at hn hso
          rcases List.mem_append.1 hn with h5 | h5
          · have := h4 _ h5
            rw [hs] at this; cases this
          · rcases List.mem_cons.1 h5 with h6 | h6
            · exact e (by rw [← h6])
            · have h7 := (List.pairwise_append.1 hso).2.1
              have h8 := (List.pairwise_cons.1 h7).1 _ h6
              have h9 := WideShapes.bytes_trans _ _ _ h3 h8
              rw [WideAt.bytes_irrefl] at h9; cases h9
        · rw [h3] at h2; cases h2
    rw [hb, mget_of_mem hM.sorted (show (y.1, y.2) ∈ M from hm)]
    rfl

theorem less_before : ∀ a b : List UInt8, Op.bytesLess a b = bytesBefore a b
  | [], [] => rfl
  | [], _ :: _ => rfl
  | _ :: _, [] => rfl
  | a :: x, b :: y => by simp only [Op.bytesLess, bytesBefore, less_before x y]

def AfterOut (M : List (Key × Nd)) (s : ByteArray) (w : World) (e : Ending) (w' : World) : Prop :=
  ∃ v, e = .returned (.tuple #[v, .bool (afterN M s).isSome]) ∧ NdS (fun b => w.heap.size ≤ b ∧ b < w'.heap.size) w' v (((afterN M s).map (·.2)).getD zeroN) ∧ Ext w w'

theorem after_any (S : Nat → Prop) (w : World) (bt : Nat) (M : List (Key × Nd)) (N : Nat) (hT : TreeAt S w bt M N) (s : ByteArray) : Calls Tryd.prog 17 #[.pointer (some ⟨bt, 0, none⟩), .string s] w (AfterOut M s w) := by
  obtain ⟨W1, hW1⟩ : ∃ W1, W1 = w.alloc (.cells zeroNd 37) := ⟨_, rfl⟩
  have hE1 : Ext w W1 := by rw [hW1]; exact Ext.alloc _ _
  have hz1 : W1.heap.size = w.heap.size + 1 := by rw [hW1]; simp
  have hr1 : W1.heap[w.heap.size]? = some (.cells zeroNd 37 (0, 0)) := by rw [hW1]; exact heap_alloc_new w _
  have hT1 := hT.ext hE1
  have hok := hT.ok
  obtain ⟨bn, bk, K, hd, hNd, hKd⟩ := hT1
  have hx := TreeAt.box hd
  obtain ⟨mm, hm, hr⟩ := hNd.ex
  have HT := Lib.hid hT
  have HE1 := Lib.hid hE1
  have HR1 := Lib.hid hr1
  have HD := Lib.hid hd
  have HND := Lib.hid hNd
  have HM := hm
  have HR := Lib.hid hr
  unfold Box treeC at hx
  have hx' := hx
  rw [hW1] at hx' HM
  unfold zeroNd at hx' HM hW1
  have HW1 := Lib.hid hW1
  clear hT hE1 hr1 hd hNd hKd hm hr hW1 hx
  go_enter Tryd.func17, Tryd.ntmps17
  go_wp2_with (at_range; refine wpList_range_s _ rfl _ 84 rfl 9 37 strT Tryd.underlying84 bn mm rfl HM ?_; intro w0 hrg0 hg0 hs0)
  go_frame
  rw [← HW1.out] at hrg0 hg0 hs0
  rw [show (w.alloc (.cells #[.string ⟨#[]⟩, .slice none 0 0, .slice none 0 0, .int .i64 0, .int .i64 0, .int .i64 0, .int .i64 0, .int .i64 0, .int .i64 0, .int .i64 0, .int .i64 0, .int .i32 0, .int .i32 0, .int .i32 0, .bool false, .int .i64 0, .int .i64 0] 37)) = W1 from HW1.out.symm]
  rw [hz1] at hrg0 ⊢
  clear hx' HM
  have hbl : bn < w.heap.size := HT.out.bound _ (by have := HD.out.sn; exact this)
  have hEr : Ext W1 w0 := ⟨hg0.os, hg0.tape, hg0.output, hg0.size, fun k hk => hg0.block k hk (by simp)⟩
  have hA0 : Aft M s.data.toList (Maps.has (kvD mm)) ⟨#[]⟩ false := ⟨fun h => (by cases h), fun _ => rfl, fun x hx hl _ => by
    exfalso
    rw [kvD_has] at hl
    rcases HR.out.get x.1 with ⟨h1, _⟩ | ⟨y, v, _, h2, _⟩
    · exact mget_none h1 x hx rfl
    · rw [h2] at hl; cases hl⟩
  go_loopw [6, 7] (fun b f wr => ∃ (left : Lit → Bool) (cnt : Nat) (best : ByteArray) (found : Bool), b = .string best ∧ f = .bool found ∧ wr.ranges Tryd.prog 9 Rv bn (w.heap.size + 1) mm.length (kvD mm) left cnt ∧ Aft M s.data.toList left best found ∧ Ext W1 wr) (fun _ _ wr => wr.rangeLeft bn (w.heap.size + 1))
  case atStart => exact ⟨_, _, _, _, rfl, rfl, hrg0, hA0, hEr⟩
  case round =>
    obtain ⟨left, cnt, best, found, rfl, rfl, hrg, hA, hE⟩ := hrel
    go_wp2_with (at_next; refine wpList_next_s _ rfl _ rfl 9 strT bn (w.heap.size + 1) _ mm left cnt rfl hrg ?_ ?_)
    · intro hl0
      obtain ⟨hd1, hd2⟩ := hA.done hok hl0
      have hbnd := HD.out.bound
      have hbs : best.size ≤ maxLen := by
        cases hf : found with
        | false => rw [hA.no hf]; unfold maxLen; decide
        | true =>
          obtain ⟨⟨n, hn⟩, _⟩ := hA.there hf
          have h1 := hok.key _ hn
          have h2 := (vpath_facts (right_vpath (hok.right _ hn))).2.1
          unfold keyN at h1
          rw [← size_list] at h2
          have h3 : best.data.toList.length ≤ 4096 := by
            have h1' : best.data.toList = n.path.data.toList := h1
            rw [h1']; exact h2
          rw [size_list] at h3
          unfold maxLen; omega
      have hNd2 : NodesAt S wr bn M N := HND.out.keep (hE.block bn (by omega)) (fun _ h => h) (fun b o u hb hu => (hE.cell (p := ⟨b, o, none⟩) (hbnd b hb)).trans hu) (Nat.le_refl _)
      have hx : Box wr bt (treeC bn bk) := fun j => cell_of_row _ _ _ _ _ _ ((hE.block bt (hbnd _ HD.out.st)).trans HD.out.blk)
      obtain ⟨v, hv, _, hq2⟩ := hNd2.look' best hbs
      have hfit := hok.fit best.data.toList
      rw [hd2] at hv hfit
      generalize hn : ((afterN M s).map (·.2)).getD zeroN = n at *
      obtain ⟨da, dc, aa, ac, rfl, hDd, hAa⟩ := hv
      have hbndr : ∀ k, S k → k < wr.heap.size := fun k hk => Nat.lt_of_lt_of_le (hbnd k hk) hE.size
      have C := Lib.hid (sclone_nd n da aa dc ac wr hfit (hDd.cells hbndr) (hAa.cells hbndr))
      have HEW := Lib.hid (HE1.out.trans hE)
      have HRr := Lib.hid ((hE.block w.heap.size (by omega)).trans HR1.out)
      have HN := Lib.hid hn
      have HDN := Lib.hid hd1
      have hzr := hE.size
      unfold Box treeC at hx
      unfold ndC at hq2 C
      unfold zeroNd at HRr
      clear hrg hA hE hNd2 hDd hAa hbndr hfit hd1 hd2 hn hrg0 hg0 hs0 hEr hA0 hbnd hbs HT HE1 HR1 HD HND HR HW1
      go_wp2_with fail
      refine C.out.mono ?_
      rintro e w3 ⟨v3, rfl, hN3, hb3⟩
      have hE3 : Ext wr w3 := hb3
      obtain ⟨va, vc, vb, vd, rfl, h1, h2⟩ := hN3
      have HR3 := Lib.hid ((hE3.block w.heap.size (by omega)).trans HRr.out)
      have hz3 := hE3.size
      have hEw : Ext w w3 := HEW.out.trans hE3
      clear C hb3 hx hq2
      go_wp2_with (refine wpList_store_row rfl 37 (.tmp 4) (.tmp 40) rfl w.heap.size _ rfl rfl 37 _ HR3.out sizeNd rfl (cells_node n va vb _ _ vc vd) ?_)
      obtain ⟨cs, hcs⟩ : ∃ cs, cs = ndC n (.slice va n.data.length vc) (.slice vb n.acl.length vd) := ⟨_, rfl⟩
      have hR4 := setRow_heap w3 w.heap.size _ cs 37 (0, 0) HR3.out
      have hs4 : (w3.setRow w.heap.size cs).heap.size = w3.heap.size := by simp [World.setRow]
      have hb4 : Ext w (w3.setRow w.heap.size cs) := hEw.trans' ⟨rfl, rfl, rfl, by rw [hs4]; exact Nat.le_refl _, fun k hk => setRow_other _ _ _ _ (by omega)⟩
      have hk : ∀ (b o : Nat) u, (wr.heap.size ≤ b ∧ b < w3.heap.size) → w3.cell? ⟨b, o, none⟩ = some u → (w3.setRow w.heap.size cs).cell? ⟨b, o, none⟩ = some u := fun b o u hb hu =>
        (World.cell?_of_block (setRow_other _ _ _ _ (show b ≠ w.heap.size by have := hb.1; omega))).trans hu
      have c1 := h1.imp (S' := fun b => w.heap.size ≤ b ∧ b < (w3.setRow w.heap.size cs).heap.size) (fun b hb => ⟨by omega, by omega⟩) hk
      have c2 := h2.imp (S' := fun b => w.heap.size ≤ b ∧ b < (w3.setRow w.heap.size cs).heap.size) (fun b hb => ⟨by omega, by omega⟩) hk
      have hsz17 : (Tryd.prog.info? 37).map (·.size) = some cs.size := by rw [hcs]; exact sizeNd
      have hfin : AfterOut M s w (.returned (.tuple #[.agg cs, .bool found])) (w3.setRow w.heap.size cs) :=
        ⟨_, by rw [HDN.out], by rw [HN.out]; exact ⟨va, vc, vb, vd, by rw [hcs], c1, c2⟩, hb4⟩
      rw [hcs] at hfin hR4 hsz17
      refine bodyPost_ret (v := .tuple #[.agg (ndC n (.slice va n.data.length vc) (.slice vb n.acl.length vd)), .bool found]) ?_ rfl hfin
      exact results_cell_row2 (p := 4) (q := 5) (ty := 37) rfl _ _ w.heap.size 37 _ (0, 0) _ _ rfl rfl hR4 Tryd.underlying37 rfl hsz17
    · intro p v w1 cnt1 hps hmp hrg1 hlt hg1 hs1 hen
      obtain ⟨n, hmem⟩ : ∃ n, (p.data.toList, n) ∈ M := by
        rcases HR.out.get p.data.toList with ⟨_, h2⟩ | ⟨y, u, h1, _, _⟩
        · rw [h2] at hmp; cases hmp
        · exact ⟨y, mget_some_mem h1⟩
      have hA1 := hA.step p hmem
      have hEn : Ext W1 w1 := hE.trans' ⟨hg1.os, hg1.tape, hg1.output, hg1.size, fun k hk => hg1.block k (Nat.lt_of_lt_of_le hk hE.size) (fun e => by have := Option.some.inj e; omega)⟩
      have HA1 := Lib.hid hA1
      have HRG1 := Lib.hid hrg1
      have HRG := Lib.hid hrg
      have HEN := Lib.hid hEn
      have lt_b : ∀ a b : ByteArray, Op.bytesLess a.toList b.toList = bytesBefore a.data.toList b.data.toList := fun a b => by rw [less_before, Lib.toList_data, Lib.toList_data]
      clear hA hrg hrg1 hg1 hs1 hEr hA0 hrg0 hg0 hs0 hmem hmp hA1 hE hEn HT HE1 HR1 HD HND HR HW1
      cases hgt : bytesBefore s.data.toList p.data.toList with
      | false =>
        have hA2 := HA1.out
        rw [if_neg (by rw [hgt]; simp), if_neg (by rw [hgt]; simp)] at hA2
        have HA2 := Lib.hid hA2
        clear hA2 HA1
        cases hlp : bytesBefore p.data.toList s.data.toList with
        | true =>
          have f1 : Op.bytesLess p.toList s.toList = true := by rw [lt_b]; exact hlp
          clear hgt hlp lt_b
          go_wp2
          go_roundw
          case rel => exact ⟨_, _, _, _, rfl, rfl, HRG1.out, HA2.out, HEN.out⟩
          case measure => rw [HRG1.out.left_eq, HRG.out.left_eq]; exact hlt
        | false =>
          have hep : p = s := by
            by_cases e : p.data.toList = s.data.toList
            · exact ba_ext e
            · rcases WideAt.bytes_total _ _ e with h | h
              · rw [hlp] at h; cases h
              · rw [hgt] at h; cases h
          have f1 : Op.bytesLess p.toList s.toList = false := by rw [lt_b]; exact hlp
          have f2 : (p.toList == s.toList) = true := by rw [hep]; simp
          have f3 : p.toList = s.toList := by rw [hep]
          clear hgt hlp lt_b hep
          go_wp2
          go_roundw
          case rel => exact ⟨_, _, _, _, rfl, rfl, HRG1.out, HA2.out, HEN.out⟩
          case measure => rw [HRG1.out.left_eq, HRG.out.left_eq]; exact hlt
      | true =>
        have hlp : bytesBefore p.data.toList s.data.toList = false := by
          cases hq : bytesBefore p.data.toList s.data.toList with
          | false => rfl
          | true => have h3 := WideShapes.bytes_trans _ _ _ hgt hq; rw [WideAt.bytes_irrefl] at h3; cases h3
        have hne : p.toList ≠ s.toList := fun e => by
          rw [Lib.toList_data, Lib.toList_data] at e
          rw [e, WideAt.bytes_irrefl] at hgt; cases hgt
        have f1 : Op.bytesLess p.toList s.toList = false := by rw [lt_b]; exact hlp
        have f2 : (p.toList == s.toList) = false := by simpa using hne
        have f3 : decide (p.toList = s.toList) = false := by simpa using hne
        cases hf : found with
        | false =>
          have hA2 := HA1.out
          rw [if_pos ⟨hgt, .inl hf⟩, if_pos ⟨hgt, .inl hf⟩] at hA2
          have HA2 := Lib.hid hA2
          clear hA2 HA1 hgt hlp lt_b
          go_wp2
          go_roundw
          case rel => exact ⟨_, _, _, _, rfl, rfl, HRG1.out, HA2.out, HEN.out⟩
          case measure => rw [HRG1.out.left_eq, HRG.out.left_eq]; exact hlt
        | true =>
          cases hpb : bytesBefore p.data.toList best.data.toList with
          | true =>
            have f4 : Op.bytesLess p.toList best.toList = true := by rw [lt_b]; exact hpb
            have hA2 := HA1.out
            rw [if_pos ⟨hgt, .inr hpb⟩, if_pos ⟨hgt, .inr hpb⟩] at hA2
            have HA2 := Lib.hid hA2
            clear hA2 HA1 hgt hlp lt_b hpb
            go_wp2
            go_roundw
            case rel => exact ⟨_, _, _, _, rfl, rfl, HRG1.out, HA2.out, HEN.out⟩
            case measure => rw [HRG1.out.left_eq, HRG.out.left_eq]; exact hlt
          | false =>
            have f4 : Op.bytesLess p.toList best.toList = false := by rw [lt_b]; exact hpb
            have hA2 := HA1.out
            rw [if_neg (by rw [hf, hpb]; simp), if_neg (by rw [hf, hpb]; simp), hf] at hA2
            have HA2 := Lib.hid hA2
            clear hA2 HA1 hgt hlp lt_b hpb
            go_wp2
            go_roundw
            case rel => exact ⟨_, _, _, _, rfl, rfl, HRG1.out, HA2.out, HEN.out⟩
            case measure => rw [HRG1.out.left_eq, HRG.out.left_eq]; exact hlt
end Go.Proofs.YtfgjbcejpjcpeaaDoor
