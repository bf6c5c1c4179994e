/- Arms of the walk at maps keyed by int64s: a range, its steps. The step of a range over a map keyed by strings: the name is told to be among those that were left. The walk of After: a range over the map of nodes, in an order that nobody knows. The walk of stat.Same at two copies of a node. A region that draws its order, whose last operation, a store, comes after all others. A region that draws its order, with one operation that turns memory (an append) ahead of all that follow it in the text. A region that draws its order, its operations turning memory: an invariant that knows which of them are done. The walks of maps.EqualFunc at two maps of the same nodes, and of tree.Same. The walk of the tree's Clone: a range over the map of nodes, each laid into a new tree, whatever the order. -/
import Derived.Test.YtclekhjnnljjlaaGreatDoorJFuzzyWhole9
import Derived.Maps.RangeWalk
import Derived.Test.YtclekhjnnljjlaaGreatDoorJFuzzyWhole3
import Derived.Test.YtclekhjnnljjlaaGreatDoorJFuzzyWhole5
import Derived.Test.YtclekhjnnljjlaaGreatDoorJFuzzyWhole7
namespace Go.Proofs.YtclekhjnnljjlaaGreatDoor
open Go.RowKit
set_option maxHeartbeats 2000000
set_option maxRecDepth 100000

section
variable {P : Program} {ops : Array Oper} {rest : List Oper} {o : Oper} {a : Act} {Q : Exit → Act → World → Prop}

/-- 'range m' over a map keyed by int64s. -/
theorem wpList_range_i (w : World) (hg : o.guard = none) (x : Operand) (t : TypeId) (hop : o.op = Op.range t x) (kt e : TypeId) (hk : P.underlying kt = some (.int .i64)) (ht : P.underlying t = some (.map kt e)) (b : Nat) (m : List (IKey × Value))
    (hm : a.eval x = .map (some b)) (h : IMap P kt w b m)
    (hK : ∀ w', w'.ranges P kt Rv b w.heap.size m.length (kiD m) (Maps.has (kiD m)) (Maps.size (kiD m)) → w.grownBy w' none → w'.heap.size = w.heap.size + 1 → wpList P ops Q rest (a.put o.dst (.pointer (some ⟨w.heap.size, 0, none⟩))) w') :
    wpList P ops Q (o :: rest) a w :=
  wpList_range_own w hg x t hop kt e (Maps.int_keyed hk) ht Rv b _ _ hm h hK

/-- The step of a range over a map keyed by int64s. -/
theorem wpList_next_i (w : World) (hg : o.guard = none) (it : Operand) (hop : o.op = Op.next it false) (kt : TypeId) (hk : P.underlying kt = some (.int .i64)) (b r n : Nat) (m : List (IKey × Value)) (left : Lit → Bool) (cnt : Nat)
    (hit : a.eval it = .pointer (some ⟨r, 0, none⟩)) (h : w.ranges P kt Rv b r n (kiD m) left cnt)
    (hDone : (∀ kl, left kl = false) → wpList P ops Q rest (a.put o.dst (.tuple #[.bool false])) w)
    (hMore : ∀ (s : Int) (v : Value) (w' : World) (cnt' : Nat), (Lit.int .i64 s).wf = true → left (.int .i64 s) = true → iget m s = some v → w'.ranges P kt Rv b r n (kiD m) (fun z => left z && !z.sameKey (.int .i64 s)) cnt' → cnt' < cnt →
      w.grownBy w' (some r) → w'.heap.size = w.heap.size → (Instr.entry (.pointer (some ⟨r, 0, none⟩))).run P w' = .ok (.tuple #[.int .i64 s, v]) w' → wpList P ops Q rest (a.put o.dst (.tuple #[.bool true, .int .i64 s, v])) w') :
    wpList P ops Q (o :: rest) a w :=
  wpList_next_ranges w hg it hop kt (Maps.int_keyed hk) Rv (Value.int .i64) (id : Value → Value) (fun key kl hkey => by
      simp only [keyOf, hk, mapKey] at hkey
      cases key <;> simp at hkey
      obtain ⟨⟨rfl, _⟩, _⟩ := hkey
      exact ⟨_, rfl⟩) (fun v y _ => ⟨v, rfl⟩) b r n (kiD m) left cnt hit h (fun _ => hDone) fun s v kl y w' cnt' hkey hleft hv hat hrg hlt hgr hsz hen => by
    have hkl : kl = .int .i64 s ∧ (Lit.int .i64 s).wf = true := by
      simp only [keyOf, hk, mapKey] at hkey
      split at hkey
      · rename_i hs; exact ⟨(Option.some.inj hkey).symm, hs.2⟩
      · cases hkey
    obtain ⟨rfl, hs⟩ := hkl
    simp only [Rv, id, Option.some.injEq] at hv
    subst hv
    refine hMore s v w' cnt' hs hleft ?_ hrg hlt hgr hsz hen
    have h1 := hat (.held (.bool true))
    have h2 := hat (.held (.bool false))
    rw [kiD_at] at h1 h2
    simp only [DataW.held.injEq] at h1 h2
    cases hq : iget m s with
    | some u => rw [hq] at h1; exact congrArg some h1
    | none => rw [hq] at h1 h2; simp at h1 h2; rw [← h1] at h2; cases h2
end
end Go.Proofs.YtclekhjnnljjlaaGreatDoor
namespace Go.Proofs.YtclekhjnnljjlaaGreatDoor
open Go.RowKit
set_option maxHeartbeats 1000000

section
variable {P : Program} {ops : Array Oper} {rest : List Oper} {o : Oper} {a : Act} {Q : Exit → Act → World → Prop}
theorem wpList_next_left (w : World) (hg : o.guard = none) (it : Operand) (hop : o.op = Op.next it false) (kt : TypeId) (hk : P.underlying kt = some .string) (b r n : Nat) (m : List (Key × Value)) (left : Lit → Bool) (cnt : Nat)
    (hit : a.eval it = .pointer (some ⟨r, 0, none⟩)) (h : w.ranges P kt Rv b r n (kvD m) left cnt)
    (hDone : (∀ kl, left kl = false) → wpList P ops Q rest (a.put o.dst (.tuple #[.bool false])) w)
    (hMore : ∀ (s : ByteArray) (v : Value) (w' : World) (cnt' : Nat), s.size ≤ maxLen → left (.string s.data.toList) = true → mget m s.data.toList = some v → w'.ranges P kt Rv b r n (kvD m) (fun z => left z && !z.sameKey (.string s.data.toList)) cnt' → cnt' < cnt →
      w.grownBy w' (some r) → w'.heap.size = w.heap.size → (Instr.entry (.pointer (some ⟨r, 0, none⟩))).run P w' = .ok (.tuple #[.string s, v]) w' → wpList P ops Q rest (a.put o.dst (.tuple #[.bool true, .string s, v])) w') :
    wpList P ops Q (o :: rest) a w :=
  wpList_next_ranges w hg it hop kt (Maps.string_keyed hk) Rv Value.string (id : Value → Value) (fun key kl hkey => by
      simp only [keyOf, hk, mapKey] at hkey
      cases key <;> simp at hkey
      exact ⟨_, rfl⟩) (fun v y _ => ⟨v, rfl⟩) b r n (kvD m) left cnt hit h (fun _ => hDone) fun s v kl y w' cnt' hkey hlk hv hat hrg hlt hgr hsz hen => by
    have hkl : kl = .string s.data.toList ∧ s.size ≤ maxLen := by
      simp only [keyOf, hk, mapKey] at hkey
      split at hkey
      · rename_i hs; exact ⟨(Option.some.inj hkey).symm, hs⟩
      · cases hkey
    obtain ⟨rfl, hs⟩ := hkl
    simp only [Rv, id, Option.some.injEq] at hv
    subst hv
    refine hMore s v w' cnt' hs hlk ?_ hrg hlt hgr hsz hen
    have h1 := hat (.held (.bool true))
    have h2 := hat (.held (.bool false))
    rw [kvD_at] at h1 h2
    simp only [DataW.held.injEq] at h1 h2
    cases hq : mget m s.data.toList with
    | some u => rw [hq] at h1; exact congrArg some h1
    | none => rw [hq] at h1 h2; simp at h1 h2; rw [← h1] at h2; cases h2
end
end Go.Proofs.YtclekhjnnljjlaaGreatDoor
namespace Go.Proofs.YtclekhjnnljjlaaGreatDoor
open Go.RowKit
set_option maxHeartbeats 2000000
set_option maxRecDepth 100000

section
variable {P : Program} {ops : Array Oper} {rest : List Oper} {o : Oper} {a : Act} {Q : Exit → Act → World → Prop}

/-- 'range m' over a map keyed by strings. -/
theorem wpList_range_s (w : World) (hg : o.guard = none) (x : Operand) (t : TypeId) (hop : o.op = Op.range t x) (kt e : TypeId) (hk : P.underlying kt = some .string) (ht : P.underlying t = some (.map kt e)) (b : Nat) (m : List (Key × Value))
    (hm : a.eval x = .map (some b)) (h : SMap P kt w b m)
    (hK : ∀ w', w'.ranges P kt Rv b w.heap.size m.length (kvD m) (Maps.has (kvD m)) (Maps.size (kvD m)) → w.grownBy w' none → w'.heap.size = w.heap.size + 1 → wpList P ops Q rest (a.put o.dst (.pointer (some ⟨w.heap.size, 0, none⟩))) w') :
    wpList P ops Q (o :: rest) a w :=
  wpList_range_own w hg x t hop kt e (Maps.string_keyed hk) ht Rv b _ _ hm h hK

/-- The step of a range over a map keyed by strings. -/
theorem wpList_next_s (w : World) (hg : o.guard = none) (it : Operand) (hop : o.op = Op.next it false) (kt : TypeId) (hk : P.underlying kt = some .string) (b r n : Nat) (m : List (Key × Value)) (left : Lit → Bool) (cnt : Nat)
    (hit : a.eval it = .pointer (some ⟨r, 0, none⟩)) (h : w.ranges P kt Rv b r n (kvD m) left cnt)
    (hDone : (∀ kl, left kl = false) → wpList P ops Q rest (a.put o.dst (.tuple #[.bool false])) w)
    (hMore : ∀ (s : ByteArray) (v : Value) (w' : World) (cnt' : Nat), s.size ≤ maxLen → mget m s.data.toList = some v → w'.ranges P kt Rv b r n (kvD m) (fun z => left z && !z.sameKey (.string s.data.toList)) cnt' → cnt' < cnt →
      w.grownBy w' (some r) → w'.heap.size = w.heap.size → (Instr.entry (.pointer (some ⟨r, 0, none⟩))).run P w' = .ok (.tuple #[.string s, v]) w' → wpList P ops Q rest (a.put o.dst (.tuple #[.bool true, .string s, v])) w') :
    wpList P ops Q (o :: rest) a w :=
  wpList_next_ranges w hg it hop kt (Maps.string_keyed hk) Rv Value.string (id : Value → Value) (fun key kl hkey => by
      simp only [keyOf, hk, mapKey] at hkey
      cases key <;> simp at hkey
      exact ⟨_, rfl⟩) (fun v y _ => ⟨v, rfl⟩) b r n (kvD m) left cnt hit h (fun _ => hDone) fun s v kl y w' cnt' hkey _ hv hat hrg hlt hgr hsz hen => by
    have hkl : kl = .string s.data.toList ∧ s.size ≤ maxLen := by
      simp only [keyOf, hk, mapKey] at hkey
      split at hkey
      · rename_i hs; exact ⟨(Option.some.inj hkey).symm, hs⟩
      · cases hkey
    obtain ⟨rfl, hs⟩ := hkl
    simp only [Rv, id, Option.some.injEq] at hv
    subst hv
    refine hMore s v w' cnt' hs ?_ hrg hlt hgr hsz hen
    have h1 := hat (.held (.bool true))
    have h2 := hat (.held (.bool false))
    rw [kvD_at] at h1 h2
    simp only [DataW.held.injEq] at h1 h2
    cases hq : mget m s.data.toList with
    | some u => rw [hq] at h1; exact congrArg some h1
    | none => rw [hq] at h1 h2; simp at h1 h2; rw [← h1] at h2; cases h2
end

/-- The first behind a text. -/
def afterN (M : List (Key × Nd)) (s : ByteArray) : Option (Key × Nd) := M.find? fun x => bytesBefore s.data.toList x.1

/-- What the rounds of the range have found. -/
structure Aft (M : List (Key × Nd)) (s : Key) (left : Lit → Bool) (best : ByteArray) (found : Bool) : Prop where
  there : found = true → (∃ n, (best.data.toList, n) ∈ M) ∧ bytesBefore s best.data.toList = true
  no : found = false → best = ⟨#[]⟩
  le : ∀ x ∈ M, left (.string x.1) = false → bytesBefore s x.1 = true → found = true ∧ bytesBefore x.1 best.data.toList = false

theorem Aft.step {M : List (Key × Nd)} {s : Key} {left : Lit → Bool} {best : ByteArray} {found : Bool} (h : Aft M s left best found) (p : ByteArray) {n : Nd} (hp : (p.data.toList, n) ∈ M) :
    Aft M s (fun z => left z && !z.sameKey (.string p.data.toList)) (if bytesBefore s p.data.toList = true ∧ (found = false ∨ bytesBefore p.data.toList best.data.toList = true) then p else best)
      (if bytesBefore s p.data.toList = true ∧ (found = false ∨ bytesBefore p.data.toList best.data.toList = true) then true else found) := by
  have hsame : ∀ k : Key, (Lit.string k).sameKey (.string p.data.toList) = (k == p.data.toList) := fun k => rfl
  have tr : ∀ a b c : Key, bytesBefore a b = true → bytesBefore b c = true → bytesBefore a c = true := fun a b c => WideShapes.bytes_trans a b c
  split
  · rename_i hc
    refine ⟨fun _ => ⟨⟨n, hp⟩, hc.1⟩, fun e => (by cases e), fun x hx hl hs => ⟨rfl, ?_⟩⟩
    simp only [hsame, Bool.and_eq_false_iff, Bool.not_eq_false'] at hl
    rcases hl with hl | hl
    · obtain ⟨h1, h2⟩ := h.le x hx hl hs
      rcases hc.2 with h3 | h3
      · rw [h1] at h3; cases h3
      · cases h4 : bytesBefore x.1 p.data.toList with
        | false => rfl
        | true => rw [tr _ _ _ h4 h3] at h2; cases h2
    · have : x.1 = p.data.toList := by simpa using hl
      rw [this, WideAt.bytes_irrefl]
  · rename_i hc
    refine ⟨h.there, h.no, fun x hx hl hs => ?_⟩
    simp only [hsame, Bool.and_eq_false_iff, Bool.not_eq_false'] at hl
    rcases hl with hl | hl
    · exact h.le x hx hl hs
    · have e : x.1 = p.data.toList := by simpa using hl
      rw [e] at hs ⊢
      cases hf : found with
      | false => exact absurd ⟨hs, .inl hf⟩ hc
      | true =>
        refine ⟨rfl, ?_⟩
        cases h4 : bytesBefore p.data.toList best.data.toList with
        | false => rfl
        | true => exact absurd ⟨hs, .inr h4⟩ hc

theorem Aft.done {M : List (Key × Nd)} (hM : MOk M) {s : ByteArray} {left : Lit → Bool} {best : ByteArray} {found : Bool} (h : Aft M s.data.toList left best found) (hl : ∀ kl, left kl = false) :
    (afterN M s).isSome = found ∧ (mget M best.data.toList).getD zeroN = ((afterN M s).map (·.2)).getD zeroN := by
  unfold afterN
  cases hf : M.find? fun x => bytesBefore s.data.toList x.1 with
  | none =>
    have hno := List.find?_eq_none.1 hf
    cases found with
    | true =>
      obtain ⟨⟨n, hn⟩, hs⟩ := h.there rfl
      exact absurd hs (hno _ hn)
    | false =>
      refine ⟨rfl, ?_⟩
      rw [h.no rfl]
      rw [mget_none_of fun x hx => ?_]
      · rfl
      · intro e
        have h1 := (vpath_facts (right_vpath (hM.right x hx))).1
        have h2 := hM.key x hx
        rw [e] at h2
        have h3 : x.2.path.data.toList = [] := h2.symm
        have h4 : x.2.path.size = 0 := by rw [← size_list, h3]; rfl
        omega
  | some y =>
    have hy := List.find?_some hf
    have hm := List.mem_of_find?_eq_some hf
    obtain ⟨h1, h2⟩ := h.le y hm (hl _) (by simpa using hy)
    subst h1
    refine ⟨rfl, ?_⟩
    obtain ⟨⟨n, hn⟩, hs⟩ := h.there rfl
    have hb : best.data.toList = y.1 := by
      by_cases e : best.data.toList = y.1
      · exact e
      · exfalso
        rcases WideAt.bytes_total _ _ e with h3 | h3
        · have hp := List.find?_eq_some_iff_append.1 hf
          obtain ⟨_, l1, l2, e1, h4⟩ := hp
          have hso := hM.sorted
          rw [e1] at hn hso
          rcases List.mem_append.1 hn with h5 | h5
          · have := h4 _ h5
            rw [hs] at this; cases this
          · rcases List.mem_cons.1 h5 with h6 | h6
            · exact e (by rw [← h6])
            · have h7 := (List.pairwise_append.1 hso).2.1
              have h8 := (List.pairwise_cons.1 h7).1 _ h6
              have h9 := WideShapes.bytes_trans _ _ _ h3 h8
              rw [WideAt.bytes_irrefl] at h9; cases h9
        · rw [h3] at h2; cases h2
    rw [hb, mget_of_mem hM.sorted (show (y.1, y.2) ∈ M from hm)]
    rfl

theorem less_before : ∀ a b : List UInt8, Op.bytesLess a b = bytesBefore a b
  | [], [] => rfl
  | [], _ :: _ => rfl
  | _ :: _, [] => rfl
  | a :: x, b :: y => by simp only [Op.bytesLess, bytesBefore, less_before x y]

def AfterOut (M : List (Key × Nd)) (s : ByteArray) (w : World) (e : Ending) (w' : World) : Prop :=
  ∃ v, e = .returned (.tuple #[v, .bool (afterN M s).isSome]) ∧ NdS (fun b => w.heap.size ≤ b ∧ b < w'.heap.size) w' v (((afterN M s).map (·.2)).getD zeroN) ∧ Ext w w'

theorem after_any (S : Nat → Prop) (w : World) (bt : Nat) (M : List (Key × Nd)) (N : Nat) (hT : TreeAt S w bt M N) (s : ByteArray) : Calls Tryz.prog 36 #[.pointer (some ⟨bt, 0, none⟩), .string s] w (AfterOut M s w) := by
  obtain ⟨W1, hW1⟩ : ∃ W1, W1 = w.alloc (.cells zeroNd 88) := ⟨_, rfl⟩
  have hE1 : Ext w W1 := by rw [hW1]; exact Ext.alloc _ _
  have hz1 : W1.heap.size = w.heap.size + 1 := by rw [hW1]; simp
  have hr1 : W1.heap[w.heap.size]? = some (.cells zeroNd 88 (0, 0)) := by rw [hW1]; exact heap_alloc_new w _
  have hT1 := hT.ext hE1
  have hok := hT.ok
  obtain ⟨bn, bk, K, hd, hNd, hKd⟩ := hT1
  have hx := TreeAt.box hd
  obtain ⟨mm, hm, hr⟩ := hNd.ex
  have HT := Lib.hid hT
  have HE1 := Lib.hid hE1
  have HR1 := Lib.hid hr1
  have HD := Lib.hid hd
  have HND := Lib.hid hNd
  have HM := hm
  have HR := Lib.hid hr
  unfold Box treeC at hx
  have hx' := hx
  rw [hW1] at hx' HM
  unfold zeroNd at hx' HM hW1
  have HW1 := Lib.hid hW1
  clear hT hE1 hr1 hd hNd hKd hm hr hW1 hx
  go_enter Tryz.func36, Tryz.ntmps36
  go_wp2_with (at_range; refine wpList_range_s _ rfl _ 92 rfl 9 88 strT Tryz.underlying92 bn mm rfl HM ?_; intro w0 hrg0 hg0 hs0)
  go_frame
  rw [← HW1.out] at hrg0 hg0 hs0
  rw [show (w.alloc (.cells #[.string ⟨#[]⟩, .slice none 0 0, .slice none 0 0, .int .i64 0, .int .i64 0, .int .i64 0, .int .i64 0, .int .i64 0, .int .i64 0, .int .i64 0, .int .i64 0, .int .i32 0, .int .i32 0, .int .i32 0, .bool false, .int .i64 0, .int .i64 0] 88)) = W1 from HW1.out.symm]
  rw [hz1] at hrg0 ⊢
  clear hx' HM
  have hbl : bn < w.heap.size := HT.out.bound _ (by have := HD.out.sn; exact this)
  have hEr : Ext W1 w0 := ⟨hg0.os, hg0.tape, hg0.output, hg0.size, fun k hk => hg0.block k hk (by simp)⟩
  have hA0 : Aft M s.data.toList (Maps.has (kvD mm)) ⟨#[]⟩ false := ⟨fun h => (by cases h), fun _ => rfl, fun x hx hl _ => by
    exfalso
    rw [kvD_has] at hl
    rcases HR.out.get x.1 with ⟨h1, _⟩ | ⟨y, v, _, h2, _⟩
    · exact mget_none h1 x hx rfl
    · rw [h2] at hl; cases hl⟩
  go_loopw [6, 7] (fun b f wr => ∃ (left : Lit → Bool) (cnt : Nat) (best : ByteArray) (found : Bool), b = .string best ∧ f = .bool found ∧ wr.ranges Tryz.prog 9 Rv bn (w.heap.size + 1) mm.length (kvD mm) left cnt ∧ Aft M s.data.toList left best found ∧ Ext W1 wr) (fun _ _ wr => wr.rangeLeft bn (w.heap.size + 1))
  case atStart => exact ⟨_, _, _, _, rfl, rfl, hrg0, hA0, hEr⟩
  case round =>
    obtain ⟨left, cnt, best, found, rfl, rfl, hrg, hA, hE⟩ := hrel
    go_wp2_with (at_next; refine wpList_next_s _ rfl _ rfl 9 strT bn (w.heap.size + 1) _ mm left cnt rfl hrg ?_ ?_)
    · intro hl0
      obtain ⟨hd1, hd2⟩ := hA.done hok hl0
      have hbnd := HD.out.bound
      have hbs : best.size ≤ maxLen := by
        cases hf : found with
        | false => rw [hA.no hf]; unfold maxLen; decide
        | true =>
          obtain ⟨⟨n, hn⟩, _⟩ := hA.there hf
          have h1 := hok.key _ hn
          have h2 := (vpath_facts (right_vpath (hok.right _ hn))).2.1
          unfold keyN at h1
          rw [← size_list] at h2
          have h3 : best.data.toList.length ≤ 4096 := by
            have h1' : best.data.toList = n.path.data.toList := h1
            rw [h1']; exact h2
          rw [size_list] at h3
          unfold maxLen; omega
      have hNd2 : NodesAt S wr bn M N := HND.out.keep (hE.block bn (by omega)) (fun _ h => h) (fun b o u hb hu => (hE.cell (p := ⟨b, o, none⟩) (hbnd b hb)).trans hu) (Nat.le_refl _)
      have hx : Box wr bt (treeC bn bk) := fun j => cell_of_row _ _ _ _ _ _ ((hE.block bt (hbnd _ HD.out.st)).trans HD.out.blk)
      obtain ⟨v, hv, _, hq2⟩ := hNd2.look' best hbs
      have hfit := hok.fit best.data.toList
      rw [hd2] at hv hfit
      generalize hn : ((afterN M s).map (·.2)).getD zeroN = n at *
      obtain ⟨da, dc, aa, ac, rfl, hDd, hAa⟩ := hv
      have hbndr : ∀ k, S k → k < wr.heap.size := fun k hk => Nat.lt_of_lt_of_le (hbnd k hk) hE.size
      have C := Lib.hid (sclone_nd n da aa dc ac wr hfit (hDd.cells hbndr) (hAa.cells hbndr))
      have HEW := Lib.hid (HE1.out.trans hE)
      have HRr := Lib.hid ((hE.block w.heap.size (by omega)).trans HR1.out)
      have HN := Lib.hid hn
      have HDN := Lib.hid hd1
      have hzr := hE.size
      unfold Box treeC at hx
      unfold ndC at hq2 C
      unfold zeroNd at HRr
      clear hrg hA hE hNd2 hDd hAa hbndr hfit hd1 hd2 hn hrg0 hg0 hs0 hEr hA0 hbnd hbs HT HE1 HR1 HD HND HR HW1
      go_wp2_with fail
      refine C.out.mono ?_
      rintro e w3 ⟨v3, rfl, hN3, hb3⟩
      have hE3 : Ext wr w3 := hb3
      obtain ⟨va, vc, vb, vd, rfl, h1, h2⟩ := hN3
      have HR3 := Lib.hid ((hE3.block w.heap.size (by omega)).trans HRr.out)
      have hz3 := hE3.size
      have hEw : Ext w w3 := HEW.out.trans hE3
      clear C hb3 hx hq2
      go_wp2_with (refine wpList_store_row rfl 88 (.tmp 4) (.tmp 40) rfl w.heap.size _ rfl rfl 88 _ HR3.out sizeNd rfl (cells_node n va vb _ _ vc vd) ?_)
      obtain ⟨cs, hcs⟩ : ∃ cs, cs = ndC n (.slice va n.data.length vc) (.slice vb n.acl.length vd) := ⟨_, rfl⟩
      have hR4 := setRow_heap w3 w.heap.size _ cs 88 (0, 0) HR3.out
      have hs4 : (w3.setRow w.heap.size cs).heap.size = w3.heap.size := by simp [World.setRow]
      have hb4 : Ext w (w3.setRow w.heap.size cs) := hEw.trans' ⟨rfl, rfl, rfl, by rw [hs4]; exact Nat.le_refl _, fun k hk => setRow_other _ _ _ _ (by omega)⟩
      have hk : ∀ (b o : Nat) u, (wr.heap.size ≤ b ∧ b < w3.heap.size) → w3.cell? ⟨b, o, none⟩ = some u → (w3.setRow w.heap.size cs).cell? ⟨b, o, none⟩ = some u := fun b o u hb hu =>
        (World.cell?_of_block (setRow_other _ _ _ _ (show b ≠ w.heap.size by have := hb.1; omega))).trans hu
      have c1 := h1.imp (S' := fun b => w.heap.size ≤ b ∧ b < (w3.setRow w.heap.size cs).heap.size) (fun b hb => ⟨by omega, by omega⟩) hk
      have c2 := h2.imp (S' := fun b => w.heap.size ≤ b ∧ b < (w3.setRow w.heap.size cs).heap.size) (fun b hb => ⟨by omega, by omega⟩) hk
      have hsz17 : (Tryz.prog.info? 88).map (·.size) = some cs.size := by rw [hcs]; exact sizeNd
      have hfin : AfterOut M s w (.returned (.tuple #[.agg cs, .bool found])) (w3.setRow w.heap.size cs) :=
        ⟨_, by rw [HDN.out], by rw [HN.out]; exact ⟨va, vc, vb, vd, by rw [hcs], c1, c2⟩, hb4⟩
      rw [hcs] at hfin hR4 hsz17
      refine bodyPost_ret (v := .tuple #[.agg (ndC n (.slice va n.data.length vc) (.slice vb n.acl.length vd)), .bool found]) ?_ rfl hfin
      exact results_cell_row2 (p := 4) (q := 5) (ty := 88) rfl _ _ w.heap.size 88 _ (0, 0) _ _ rfl rfl hR4 Tryz.underlying88 rfl hsz17
    · intro p v w1 cnt1 hps hmp hrg1 hlt hg1 hs1 hen
      obtain ⟨n, hmem⟩ : ∃ n, (p.data.toList, n) ∈ M := by
        rcases HR.out.get p.data.toList with ⟨_, h2⟩ | ⟨y, u, h1, _, _⟩
        · rw [h2] at hmp; cases hmp
        · exact ⟨y, mget_some_mem h1⟩
      have hA1 := hA.step p hmem
      have hEn : Ext W1 w1 := hE.trans' ⟨hg1.os, hg1.tape, hg1.output, hg1.size, fun k hk => hg1.block k (Nat.lt_of_lt_of_le hk hE.size) (fun e => by have := Option.some.inj e; omega)⟩
      have HA1 := Lib.hid hA1
      have HRG1 := Lib.hid hrg1
      have HRG := Lib.hid hrg
      have HEN := Lib.hid hEn
      have lt_b : ∀ a b : ByteArray, Op.bytesLess a.toList b.toList = bytesBefore a.data.toList b.data.toList := fun a b => by rw [less_before, Lib.toList_data, Lib.toList_data]
      clear hA hrg hrg1 hg1 hs1 hEr hA0 hrg0 hg0 hs0 hmem hmp hA1 hE hEn HT HE1 HR1 HD HND HR HW1
      cases hgt : bytesBefore s.data.toList p.data.toList with
      | false =>
        have hA2 := HA1.out
        rw [if_neg (by rw [hgt]; simp), if_neg (by rw [hgt]; simp)] at hA2
        have HA2 := Lib.hid hA2
        clear hA2 HA1
        cases hlp : bytesBefore p.data.toList s.data.toList with
        | true =>
          have f1 : Op.bytesLess p.toList s.toList = true := by rw [lt_b]; exact hlp
          clear hgt hlp lt_b
          go_wp2
          go_roundw
          case rel => exact ⟨_, _, _, _, rfl, rfl, HRG1.out, HA2.out, HEN.out⟩
          case measure => rw [HRG1.out.left_eq, HRG.out.left_eq]; exact hlt
        | false =>
          have hep : p = s := by
            by_cases e : p.data.toList = s.data.toList
            · exact ba_ext e
            · rcases WideAt.bytes_total _ _ e with h | h
              · rw [hlp] at h; cases h
              · rw [hgt] at h; cases h
          have f1 : Op.bytesLess p.toList s.toList = false := by rw [lt_b]; exact hlp
          have f2 : (p.toList == s.toList) = true := by rw [hep]; simp
          have f3 : p.toList = s.toList := by rw [hep]
          clear hgt hlp lt_b hep
          go_wp2
          go_roundw
          case rel => exact ⟨_, _, _, _, rfl, rfl, HRG1.out, HA2.out, HEN.out⟩
          case measure => rw [HRG1.out.left_eq, HRG.out.left_eq]; exact hlt
      | true =>
        have hlp : bytesBefore p.data.toList s.data.toList = false := by
          cases hq : bytesBefore p.data.toList s.data.toList with
          | false => rfl
          | true => have h3 := WideShapes.bytes_trans _ _ _ hgt hq; rw [WideAt.bytes_irrefl] at h3; cases h3
        have hne : p.toList ≠ s.toList := fun e => by
          rw [Lib.toList_data, Lib.toList_data] at e
          rw [e, WideAt.bytes_irrefl] at hgt; cases hgt
        have f1 : Op.bytesLess p.toList s.toList = false := by rw [lt_b]; exact hlp
        have f2 : (p.toList == s.toList) = false := by simpa using hne
        have f3 : decide (p.toList = s.toList) = false := by simpa using hne
        cases hf : found with
        | false =>
          have hA2 := HA1.out
          rw [if_pos ⟨hgt, .inl hf⟩, if_pos ⟨hgt, .inl hf⟩] at hA2
          have HA2 := Lib.hid hA2
          clear hA2 HA1 hgt hlp lt_b
          go_wp2
          go_roundw
          case rel => exact ⟨_, _, _, _, rfl, rfl, HRG1.out, HA2.out, HEN.out⟩
          case measure => rw [HRG1.out.left_eq, HRG.out.left_eq]; exact hlt
        | true =>
          cases hpb : bytesBefore p.data.toList best.data.toList with
          | true =>
            have f4 : Op.bytesLess p.toList best.toList = true := by rw [lt_b]; exact hpb
            have hA2 := HA1.out
            rw [if_pos ⟨hgt, .inr hpb⟩, if_pos ⟨hgt, .inr hpb⟩] at hA2
            have HA2 := Lib.hid hA2
            clear hA2 HA1 hgt hlp lt_b hpb
            go_wp2
            go_roundw
            case rel => exact ⟨_, _, _, _, rfl, rfl, HRG1.out, HA2.out, HEN.out⟩
            case measure => rw [HRG1.out.left_eq, HRG.out.left_eq]; exact hlt
          | false =>
            have f4 : Op.bytesLess p.toList best.toList = false := by rw [lt_b]; exact hpb
            have hA2 := HA1.out
            rw [if_neg (by rw [hf, hpb]; simp), if_neg (by rw [hf, hpb]; simp), hf] at hA2
            have HA2 := Lib.hid hA2
            clear hA2 HA1 hgt hlp lt_b hpb
            go_wp2
            go_roundw
            case rel => exact ⟨_, _, _, _, rfl, rfl, HRG1.out, HA2.out, HEN.out⟩
            case measure => rw [HRG1.out.left_eq, HRG.out.left_eq]; exact hlt
end Go.Proofs.YtclekhjnnljjlaaGreatDoor
namespace Go.Proofs.YtclekhjnnljjlaaGreatDoor
open Go.RowKit
set_option maxHeartbeats 2000000
set_option maxRecDepth 100000

theorem bequal_self (a b : Option Addr) (c d : Nat) (xs : List UInt8) (w : World) (hx : Cells w.heap.size w a (xs.map u8v)) (hy : Cells w.heap.size w b (xs.map u8v)) :
    Calls Tryz.prog 95 #[.slice a xs.length c, .slice b xs.length d] w fun e w' => e = .returned (.bool true) ∧ w = w' := by
  have hv1 := conv_string c hx
  have hv2 := conv_string d hy
  clear hx hy
  go_enter Tryz.func95, Tryz.ntmps95
  go_wp2
  go_ret
  exact ⟨rfl, rfl⟩

theorem aequal_self (a b : Option Addr) (c d : Nat) (xs : List Ac) (w : World) (hx : Cells w.heap.size w a (acCs xs)) (hy : Cells w.heap.size w b (acCs xs)) (hm : xs.length ≤ 9223372036854775800) :
    Calls Tryz.prog 96 #[.slice a xs.length c, .slice b xs.length d] w fun e w' => e = .returned (.bool true) ∧ Below w.heap.size w w' := by
  have hg := guard_ac
  have hnq := neq_ac
  go_enter Tryz.func96, Tryz.ntmps96
  go_wp2
  go_loopw [13] (fun i wr => ∃ (k n : Nat), k ≤ xs.length ∧ i = .int .i64 k ∧ wr = w.drewN n) (fun i _ => xs.length - (intOf i).toNat)
  case atStart => exact ⟨0, 0, Nat.zero_le _, rfl, rfl⟩
  case round =>
    obtain ⟨k, n, hk, rfl, rfl⟩ := hrel
    by_cases hlt : k < xs.length
    · obtain ⟨b1, o1, rfl, hb1, c0, c1, c2⟩ := acCells hx k hlt
      obtain ⟨b2, o2, rfl, hb2, d0, d1, d2⟩ := acCells hy k hlt
      have hk1 : (k : Int) < xs.length := by omega
      have hk0 : (0 : Int) ≤ k := by omega
      have he := eqAc_self xs[k]
      clear hx hy
      go_wp2
      go_quiet (fail)
      go_wp2
      go_roundw
      case rel => exact ⟨k + 1, _, by omega, by go_num, rfl⟩
      case measure => simp [intOf]; omega
    · obtain rfl : k = xs.length := by omega
      clear hx hy
      go_wp2
      go_ret
      exact ⟨rfl, below_drewN (Below.refl _ _) _⟩

/-- A node and its like are the same. -/
theorem ssame_self (n : Nd) (da aa db ab : Option Addr) (dc ac dd ad : Nat) (w : World) (hf : Fit n) (hD : Cells w.heap.size w da (n.data.map u8v)) (hA : Cells w.heap.size w aa (acCs n.acl)) (hD' : Cells w.heap.size w db (n.data.map u8v)) (hA' : Cells w.heap.size w ab (acCs n.acl)) :
    Calls Tryz.prog 56 #[.agg (ndC n (.slice da n.data.length dc) (.slice aa n.acl.length ac)), .agg (ndC n (.slice db n.data.length dd) (.slice ab n.acl.length ad))] w fun e w' => e = .returned (.bool true) ∧ Below w.heap.size w w' := by
  have hfa := hf.acl
  obtain ⟨W2, hW2⟩ : ∃ W2, W2 = (w.alloc (.cells (ndC n (.slice da n.data.length dc) (.slice aa n.acl.length ac)) 88)).alloc (.cells (ndC n (.slice db n.data.length dd) (.slice ab n.acl.length ad)) 88) := ⟨_, rfl⟩
  have hs2 : W2.heap.size = w.heap.size + 1 + 1 := by rw [hW2]; simp
  have hb2 : Below w.heap.size w W2 := by rw [hW2]; exact ((Below.refl _ _).alloc (Nat.le_refl _) _).alloc (by simp) _
  have hx : Box W2 w.heap.size (ndC n (.slice da n.data.length dc) (.slice aa n.acl.length ac)) := fun j => by rw [hW2]; exact cell_of_row _ _ _ _ _ _ (heap_alloc2_old w _ _)
  have hy : Box W2 (w.heap.size + 1) (ndC n (.slice db n.data.length dd) (.slice ab n.acl.length ad)) := fun j => by rw [hW2]; exact cell_of_row _ _ _ _ _ _ (heap_alloc2_new w _ _)
  have CB := bequal_self da db dc dd n.data W2 ((hD.below hb2).mono (by omega)) ((hD'.below hb2).mono (by omega))
  have CA := aequal_self aa ab ac ad n.acl W2 ((hA.below hb2).mono (by omega)) ((hA'.below hb2).mono (by omega)) (by omega)
  have hgq := guard_q
  have hnq := eql_q
  have hqq : ∀ h a b, eqQ h a b h a b = true := fun h a b => by simp [eqQ]
  rw [hW2] at CA CB
  have CA := Lib.hid CA
  have CB := Lib.hid CB
  have HW2 := Lib.hid hW2
  unfold ndC at hx hy CA CB HW2 ⊢
  clear hW2 hD hA hD' hA'
  unfold Box at hx hy
  have hx0 := hx
  have hy0 := hy
  rw [HW2.out] at hx hy
  go_enter Tryz.func56, Tryz.ntmps56
  go_wp2_with fail
  refine CB.out.mono ?_
  rintro e w3 ⟨rfl, rfl⟩
  clear CB
  go_wp2_with fail
  refine CA.out.mono ?_
  rintro e w3 ⟨rfl, hb3⟩
  rw [← HW2.out] at hb3
  have hx3 := Box.below (fun j => hx0 j) hb3 (by omega)
  have hy3 := Box.below (fun j => hy0 j) hb3 (by omega)
  have hbb := hb2.trans (hb3.mono (by omega))
  unfold Box at hx3 hy3
  clear CA hx hy hx0 hy0 hb3 hb2 HW2
  go_wp2
  go_ret
  exact ⟨rfl, hbb⟩
end Go.Proofs.YtclekhjnnljjlaaGreatDoor
namespace Go.Proofs.YtclekhjnnljjlaaGreatDoor
open Go.RowKit
section
variable {P : Program} {ops : Array Oper} {Q : Exit → Act → World → Prop} {a0 : Act} {w0 : World}
end
end Go.Proofs.YtclekhjnnljjlaaGreatDoor
namespace Go.Proofs.YtclekhjnnljjlaaGreatDoor
open Go.RowKit
section
variable {P : Program} {ops : Array Oper} {Q : Exit → Act → World → Prop} {a0 : Act} {w0 : World}

/-- Does i wait for j? -/
def reachB (ops : Array Oper) : Nat → Nat → Nat → Bool
  | 0, i, j => i == j
  | f + 1, i, j => i == j || (ops[i]?.any fun o => o.after.toList.any fun e => Region.binds .any e && reachB ops f e.on j)
def Closed (ops : Array Oper) (l : Array Bool) : Prop := ∀ (i : Nat) o, ops[i]? = some o → l.getD i false = true → ∀ e ∈ o.after.toList, Region.binds .any e = true → l.getD e.on false = true
theorem Closed.reach {l : Array Bool} (h : Closed ops l) : ∀ (f i j : Nat), reachB ops f i j = true → l.getD i false = true → l.getD j false = true
  | 0, i, j, hr, hi => by simp [reachB] at hr; rw [← hr]; exact hi
  | f + 1, i, j, hr, hi => by
    simp only [reachB, Bool.or_eq_true, beq_iff_eq] at hr
    rcases hr with rfl | hr
    · exact hi
    · obtain ⟨o, ho, he⟩ := (Option.any_eq_true _ _).1 hr
      obtain ⟨e, hem, h2⟩ := List.any_eq_true.1 he
      simp only [Bool.and_eq_true] at h2
      exact h.reach f e.on j h2.2 (h i o ho hi e hem h2.1)

/-- An operation's duty: p is the one that turns memory; b: has it been? -/
def DutyP (P : Program) (ops : Array Oper) (Q : Exit → Act → World → Prop) (p : Nat) (G : Bool → World → Prop) (Φ : Nat → Value → World → Prop) (a0 : Act) (i : Nat) (o : Oper) : Prop :=
  ∀ b a w, (reachB ops ops.size p i = true → b = false) → (p < i → b = true) → G b w → Framed ops a0 a → Ahead ops Φ o a w →
    o.wp P a w (fun a' w' => ∃ v, a' = a.put o.dst v ∧ Φ i v w' ∧ (∀ j u, j ≠ i → (i = p → j < p) → Φ j u w → Φ j u w') ∧ G (b || i == p) w') Q
def DutiesP (P : Program) (ops : Array Oper) (Q : Exit → Act → World → Prop) (p : Nat) (G : Bool → World → Prop) (Φ : Nat → Value → World → Prop) (a0 : Act) : Nat → List Oper → Prop
  | _, [] => True
  | i, o :: l => DutyP P ops Q p G Φ a0 i o ∧ DutiesP P ops Q p G Φ a0 (i + 1) l
theorem DutiesP.at {p : Nat} {G : Bool → World → Prop} {Φ : Nat → Value → World → Prop} : ∀ {l : List Oper} {k : Nat}, DutiesP P ops Q p G Φ a0 k l → ∀ i o, l[i]? = some o → DutyP P ops Q p G Φ a0 (k + i) o
  | [], _, _, i, o, h => by simp at h
  | q :: l, k, hd, 0, o, h => by simp at h; subst h; exact hd.1
  | q :: l, k, hd, i + 1, o, h => by
    have := DutiesP.at (k := k + 1) hd.2 i o (by simpa using h)
    rwa [show k + 1 + i = k + (i + 1) from by omega] at this

end
end Go.Proofs.YtclekhjnnljjlaaGreatDoor
namespace Go.Proofs.YtclekhjnnljjlaaGreatDoor
open Go.RowKit
section
variable {P : Program} {ops : Array Oper} {Q : Exit → Act → World → Prop} {a0 : Act} {w0 : World}

/-- An operation's duty; l: which are done. Φ speaks of values alone. -/
def DutyS (P : Program) (ops : Array Oper) (Q : Exit → Act → World → Prop) (G : (Nat → Bool) → World → Prop) (Φ : Nat → Value → Prop) (a0 : Act) (i : Nat) (o : Oper) : Prop :=
  ∀ (d : Nat → Bool) a w, d i = false → (∀ f k j, reachB ops f k j = true → d k = true → d j = true) → (∀ e ∈ o.after.toList, Region.binds .any e = true → d e.on = true) → G d w → Framed ops a0 a → Ahead ops (fun i v _ => Φ i v) o a w →
    o.wp P a w (fun a' w' => ∃ v, a' = a.put o.dst v ∧ Φ i v ∧ G (fun k => d k || k == i) w') Q
def DutiesS (P : Program) (ops : Array Oper) (Q : Exit → Act → World → Prop) (G : (Nat → Bool) → World → Prop) (Φ : Nat → Value → Prop) (a0 : Act) : Nat → List Oper → Prop
  | _, [] => True
  | i, o :: l => DutyS P ops Q G Φ a0 i o ∧ DutiesS P ops Q G Φ a0 (i + 1) l
theorem DutiesS.at {G : (Nat → Bool) → World → Prop} {Φ : Nat → Value → Prop} : ∀ {l : List Oper} {k : Nat}, DutiesS P ops Q G Φ a0 k l → ∀ i o, l[i]? = some o → DutyS P ops Q G Φ a0 (k + i) o
  | [], _, _, i, o, h => by simp at h
  | q :: l, k, hd, 0, o, h => by simp at h; subst h; exact hd.1
  | q :: l, k, hd, i + 1, o, h => by
    have := DutiesS.at (k := k + 1) hd.2 i o (by simpa using h)
    rwa [show k + 1 + i = k + (i + 1) from by omega] at this

theorem region_state (m : Nat) (G : (Nat → Bool) → World → Prop) (hG0 : G (fun _ => false) w0.drew) (Φ : Nat → Value → Prop)
    (hchk : (dstsOk ops && aheadB ops && (ops.toList.all fun o => o.guard.isNone && o.dst.any fun d => decide (d < m))) = true) (hsz : a0.tmps.size = m)
    (hd : DutiesS P ops Q G Φ a0 0 ops.toList)
    (hend : ∀ us d w, (∀ i, i < ops.size → d i = true) → G d w → us.length = ops.toList.length → (∀ i u, us[i]? = some u → Φ i u) → Q .normal (filled ops.toList us a0) w) :
    RegionP P ops Q a0 w0 := by
  simp only [Bool.and_eq_true] at hchk
  obtain ⟨⟨hdst, hacy⟩, hall⟩ := hchk
  have hdd : ∀ o ∈ ops.toList, ∃ d, o.dst = some d ∧ d < a0.tmps.size := fun o ho => by
    have := List.all_eq_true.1 hall o ho
    simp only [Bool.and_eq_true] at this
    have h2 := this.2
    cases hq : o.dst with
    | none => rw [hq] at h2; cases h2
    | some d => rw [hq] at h2; exact ⟨d, rfl, by rw [hsz]; simpa using h2⟩
  have hin : ∀ o ∈ ops.toList, ∀ d, o.dst = some d → d < a0.tmps.size := fun o ho d hd => by
    obtain ⟨d', h1, h2⟩ := hdd o ho
    rw [hd] at h1
    rw [Option.some.inj h1]; exact h2
  have hng : ∀ o ∈ ops.toList, o.guard = none := fun o ho => by
    have := List.all_eq_true.1 hall o ho
    simp only [Bool.and_eq_true] at this
    simpa using this.1
  have hdn : (ops.toList.filterMap (·.dst)).Nodup := by simpa [dstsOk] using hdst
  unfold RegionP
  refine wpAny_inv (fun l a w => l.size = ops.size ∧ G (fun k => l.getD k false) w ∧ Framed ops a0 a ∧ (∀ i o, ops[i]? = some o → l.getD i false = true → Φ i (valOf o a)) ∧ Closed ops l) (fun _ _ _ h => h.1) ?_ ?_ _ _ _ _ ?_ ?_
  · rintro l a w i ⟨hs, hE, hF, hP, hC⟩ hi
    obtain ⟨hlt, hu, hpre⟩ := (ready_iff hs).1 hi
    have ho : ops[i]? = some ops[i] := Array.getElem?_eq_getElem hlt
    have hol : ops.toList[i]? = some ops[i] := by simp
    have hmem : ops[i] ∈ ops.toList := by simp
    have hduty := hd.at i ops[i] hol
    rw [Nat.zero_add] at hduty
    have hgo := hduty (fun k => l.getD k false) a w hu (fun f k j h hk => hC.reach f k j h hk) (fun e he hb => hpre e he hb) hE hF (fun e he hb q hq => hP e.on q hq (hpre e he hb))
    unfold wpOpP
    rw [ho]
    simp only []
    rw [if_pos (by unfold Region.wanted; rw [hng _ hmem])]
    refine Oper.wp_mono (fun a' w' h => ?_) hgo
    obtain ⟨v, rfl, hv, hG'⟩ := h
    have hgp : (fun k => (l.setIfInBounds i true).getD k false) = fun k => l.getD k false || k == i := by
      funext k
      by_cases e : k = i
      · subst e
        rw [getD_set_same (by omega)]; simp
      · rw [getD_set_other e]
        have : (k == i) = false := by simpa using e
        rw [this, Bool.or_false]
    refine ⟨by simpa using hs, by rw [hgp]; exact hG', framed_put hF hmem v, fun j o hj hlj => ?_, fun j o hj hlj e he hb => ?_⟩
    · by_cases e : j = i
      · subst e
        rw [ho] at hj
        obtain rfl := Option.some.inj hj
        obtain ⟨d, hd1, _⟩ := hdd _ hmem
        rw [valOf_put_same (fun d hd => by rw [hF.2.1]; exact hin _ hmem d hd) (fun h => by rw [hd1] at h; cases h)]
        exact hv
      · rw [getD_set_other e] at hlj
        rw [valOf_put_other (fun d hd h => e (dst_inj ops.toList hdn j i o ops[i] d (by simpa using hj) hol hd h))]
        exact hP j o hj hlj
    · by_cases hei : e.on = i
      · rw [hei]; exact getD_set_same (by omega)
      · rw [getD_set_other hei]
        by_cases hji : j = i
        · subst hji
          rw [ho] at hj
          obtain rfl := Option.some.inj hj
          exact hpre e he hb
        · rw [getD_set_other hji] at hlj
          exact hC j o hj hlj e he hb
  · rintro l a w ⟨hs, hE, hF, hP, _⟩ hr
    have hdone : ∀ i, i < ops.size → l.getD i false = true := fun i hi => ready_none hs hacy hr (i + 1) i (by omega) hi
    rw [framed_filled hF ops.toList (fun _ h => h) (fun _ h => .inl h) hin]
    refine hend _ _ w hdone hE (by simp) fun i u hu => ?_
    rw [List.getElem?_map, Option.map_eq_some_iff] at hu
    obtain ⟨o, ho, rfl⟩ := hu
    exact hP i o (by simpa using ho) (hdone i (Array.getElem?_eq_some_iff.1 (show ops[i]? = some o by simpa using ho)).1)
  · have hf : ∀ i, (Array.replicate ops.size false).getD i false = false := fun i => by
      rw [Array.getD_eq_getD_getElem?, Array.getElem?_replicate]; split <;> rfl
    refine ⟨by simp, by simp only [hf]; exact hG0, ⟨rfl, rfl, fun _ _ => rfl⟩, ?_, ?_⟩
    · intro i o _ h
      rw [hf] at h; cases h
    · intro i o _ h
      rw [hf] at h; cases h
  · unfold unlisted
    exact Nat.le_trans (List.count_le_length) (by simp)

theorem region_state_vals (m : Nat) (G : (Nat → Bool) → World → Prop) (hG0 : G (fun _ => false) w0.drew) (vals : List Value) (hlen : vals.length = ops.toList.length)
    (hchk : (dstsOk ops && aheadB ops && (ops.toList.all fun o => o.guard.isNone && o.dst.any fun d => decide (d < m))) = true) (hsz : a0.tmps.size = m)
    (hd : DutiesS P ops Q G (fun i v => vals[i]? = some v) a0 0 ops.toList)
    (hend : ∀ d w, (∀ i, i < ops.size → d i = true) → G d w → Q .normal (filled ops.toList vals a0) w) : RegionP P ops Q a0 w0 := by
  refine region_state m G hG0 (fun i v => vals[i]? = some v) hchk hsz hd fun us d w hdn hG hl hP => ?_
  have : us = vals := List.ext_getElem? fun i => by
    by_cases hi : i < us.length
    · rw [hP i us[i] (List.getElem?_eq_getElem hi), List.getElem?_eq_getElem hi]
    · rw [List.getElem?_eq_none (by omega), List.getElem?_eq_none (by omega)]
  rw [this]
  exact hend d w hdn hG

/-- An operation that only reads. -/
theorem dutyS_ext {i : Nat} {o : Oper} {G : (Nat → Bool) → World → Prop} {Φ : Nat → Value → Prop} (hG : ∀ d d' w w', G d w → Ext w w' → (∀ k, k ≠ i → d' k = d k) → G d' w')
    (h : ∀ d a w, G d w → Framed ops a0 a → Ahead ops (fun i v _ => Φ i v) o a w → o.wp P a w (fun a' w' => ∃ v, a' = a.put o.dst v ∧ Φ i v ∧ Ext w w') Q) : DutyS P ops Q G Φ a0 i o := by
  intro d a w _ _ _ hGw hF hA
  refine Oper.wp_mono (fun a' w' hh => ?_) (h d a w hGw hF hA)
  obtain ⟨v, rfl, hv, hE⟩ := hh
  exact ⟨v, rfl, hv, hG d _ _ _ hGw hE fun k hk => by
    have : (k == i) = false := by simpa using hk
    rw [this, Bool.or_false]⟩
end
end Go.Proofs.YtclekhjnnljjlaaGreatDoor
namespace Go.Proofs.YtclekhjnnljjlaaGreatDoor
open Go.RowKit
set_option maxHeartbeats 4000000
set_option maxRecDepth 100000

theorem wpList_load_row_g {P : Program} {ops : Array Oper} {rest : List Oper} {o : Oper} {a : Act} {Q : Exit → Act → World → Prop} {w : World} (hw : Region.wanted o (yielded ops a.tmps) = true) (ty : TypeId) (x : Operand) (ho : o.op = .load ty x) (g : Nat) (hx : a.eval x = .pointer (some ⟨g, 0, none⟩)) (t : TypeId) (cs : Array Value) (fr : Nat × Nat) (d : TypeDesc) (hg : w.heap[g]? = some (.cells cs t fr))
    (hu : P.underlying ty = some d) (hd : (match d with | .struct _ | .array _ _ => true | _ => false) = true) (hi : (P.info? ty).map (·.size) = some cs.size)
    (hK : wpList P ops Q rest (a.put o.dst (.agg cs)) w) : wpList P ops Q (o :: rest) a w := by
  rw [wpList, if_pos hw]
  exact .inl (wp_value (ex_load_row ho g hx t cs fr d hg hu hd hi) hK)

theorem grown_ext {a b : World} (h : Ext a b) (row : Option Nat) : a.grownBy b row := ⟨h.os, h.tape, h.output, h.size, fun k hk _ => h.block k hk⟩

theorem eqf_self (S1 S2 : Nat → Prop) (w : World) (bn1 bn2 : Nat) (M : List (Key × Nd)) (N1 N2 : Nat) (h1 : NodesAt S1 w bn1 M N1) (h2 : NodesAt S2 w bn2 M N2) (hS1 : ∀ k, S1 k → k < w.heap.size) (hS2 : ∀ k, S2 k → k < w.heap.size) :
    Calls Tryz.prog 55 #[.map (some bn1), .map (some bn2), .func (.func 56) #[] #[]] w fun e w' => e = .returned (.bool true) ∧ Ext w w' := by
  have hok := h1.ok
  obtain ⟨m1, hm1, hr1⟩ := h1.ex
  have hlt2 : bn2 < w.heap.size := by obtain ⟨m2, hm2, _⟩ := h2.ex; exact hm2.lt
  have hlen1 := fun ty => hm1.len (e := 88) Tryz.underlying92 ty
  have hlen2 : ∀ ty, (Builtin.len_ #[92] ty #[.map (some bn2)]).run Tryz.prog w = .ok (.int .i64 M.length) w := fun ty => by
    obtain ⟨m2, hm2, hr2⟩ := h2.ex
    rw [hr2.length]
    exact hm2.len (e := 88) Tryz.underlying92 ty
  rw [← hr1.length] at hlen1
  have HR1 := Lib.hid hr1
  have H2 := Lib.hid h2
  have HOK := Lib.hid hok
  have HM1 := hm1
  clear h1 h2 hm1 hr1 hok
  go_enter Tryz.func55, Tryz.ntmps55
  go_wp2_with (at_range; refine wpList_range_own _ rfl _ 92 rfl 9 88 (Maps.string_keyed strT) Tryz.underlying92 Rv bn1 _ _ rfl HM1 ?_; intro w0 hrg0 hg0 hs0)
  go_frame
  have hE0 : Ext w w0 := ⟨hg0.os, hg0.tape, hg0.output, hg0.size, fun k hk => hg0.block k hk (by simp)⟩
  have hb1 := HM1.lt
  have HRG0 := Lib.hid hrg0
  have HE0 := Lib.hid hE0
  clear HM1 hlen1 hlen2 hrg0 hg0 hs0 hE0
  go_loopw [6] (fun r wr => ∃ (left : Lit → Bool) (cnt : Nat), r = .bool false ∧ wr.ranges Tryz.prog 9 Rv bn1 w.heap.size m1.length (kvD m1) left cnt ∧ Ext w wr) (fun _ wr => wr.rangeLeft bn1 w.heap.size)
  case atStart => exact ⟨_, _, rfl, HRG0.out, HE0.out⟩
  case round =>
    obtain ⟨left, cnt, rfl, hrg, hE⟩ := hrel
    have HE := Lib.hid hE
    clear hE
    go_wp2_with (at_next; refine wpList_next_left _ rfl _ rfl 9 strT bn1 w.heap.size _ m1 left cnt rfl hrg ?_ ?_)
    · intro _
      clear hrg
      go_wp2
      go_ret
      exact ⟨rfl, HE.out⟩
    · intro s v w6 cnt6 hs _ hmg hrg6 hlt6 hg6 hsz6 hen
      obtain ⟨y, hy, hv⟩ : ∃ y, mget M s.data.toList = some y ∧ NdS S1 w v y := by
        rcases HR1.out.get s.data.toList with ⟨_, h2⟩ | ⟨y, u, h1, h2, h3⟩
        · rw [h2] at hmg; cases hmg
        · rw [h2] at hmg
          cases hmg
          exact ⟨y, h1, h3⟩
      have hEw6 : Ext w w6 := HE.out.trans' ⟨hg6.os, hg6.tape, hg6.output, hg6.size, fun i hi => hg6.block i (Nat.lt_of_lt_of_le hi HE.out.size) (fun e => by
        have := Option.some.inj e
        omega)⟩
      have hfit := HOK.out.fit s.data.toList
      rw [hy] at hfit
      simp only [Option.getD_some] at hfit
      obtain ⟨da, dc, aa, ac, rfl, hD, hA⟩ := hv
      obtain ⟨W7, hW7⟩ : ∃ W7, W7 = w6.alloc (.cells (ndC y (.slice da y.data.length dc) (.slice aa y.acl.length ac)) 88) := ⟨_, rfl⟩
      have hE7 : Ext w6 W7 := by rw [hW7]; exact Ext.alloc _ _
      have hz7 : W7.heap.size = w6.heap.size + 1 := by rw [hW7]; simp
      have hn7 : W7.heap[w6.heap.size]? = some (.cells (ndC y (.slice da y.data.length dc) (.slice aa y.acl.length ac)) 88 (0, 0)) := by rw [hW7]; exact heap_alloc_new _ _
      have hEw7 := hEw6.trans hE7
      have h27 : NodesAt S2 W7 bn2 M N2 := H2.out.keep (hEw7.block bn2 hlt2) (fun _ h => h) (fun b o u hb hu => (hEw7.cell (p := ⟨b, o, none⟩) (hS2 b hb)).trans hu) (Nat.le_refl _)
      obtain ⟨v2, hv2, hq, _⟩ := h27.look' s hs
      rw [hy] at hv2 hq
      simp only [Option.getD_some, Option.isSome_some] at hv2 hq
      obtain ⟨db, dd, ab, ad, rfl, hD2, hA2⟩ := hv2
      obtain ⟨W8, hW8⟩ : ∃ W8, W8 = W7.alloc (.cells (ndC y (.slice db y.data.length dd) (.slice ab y.acl.length ad)) 88) := ⟨_, rfl⟩
      have hE8 : Ext W7 W8 := by rw [hW8]; exact Ext.alloc _ _
      have hz8 : W8.heap.size = W7.heap.size + 1 := by rw [hW8]; simp
      have hn8 : W8.heap[W7.heap.size]? = some (.cells (ndC y (.slice db y.data.length dd) (.slice ab y.acl.length ad)) 88 (0, 0)) := by rw [hW8]; exact heap_alloc_new _ _
      have hn78 := (hE8.block w6.heap.size (by omega)).trans hn7
      have hE68 := hE7.trans hE8
      have CS := Lib.hid (ssame_self y da aa db ab dc ac dd ad W8 hfit (((hD.cells hS1).ext (hEw7.trans hE8))) ((hA.cells hS1).ext (hEw7.trans hE8)) ((hD2.cells fun b hb => Nat.lt_of_lt_of_le (hS2 b hb) hEw7.size).ext hE8) ((hA2.cells fun b hb => Nat.lt_of_lt_of_le (hS2 b hb) hEw7.size).ext hE8))
      have HRG8 := Lib.hid (hrg6.kept (grown_ext hE68 none) (by simp) (by simp))
      have HRG := Lib.hid hrg
      have HSET7 := Lib.hid ((setRow_alloc w6 zeroNd (ndC y (.slice da y.data.length dc) (.slice aa y.acl.length ac)) 88).trans hW7.symm)
      have HNew7 := Lib.hid (heap_alloc_new w6 (.cells zeroNd 88))
      have HSET8 := Lib.hid ((setRow_alloc W7 zeroNd (ndC y (.slice db y.data.length dd) (.slice ab y.acl.length ad)) 88).trans hW8.symm)
      have HNew8 := Lib.hid (heap_alloc_new W7 (.cells zeroNd 88))
      have HN78 := Lib.hid hn78
      have HN8 := Lib.hid hn8
      have HEW8 := Lib.hid (hEw7.trans hE8)
      have HLT := Lib.hid hlt6
      rw [hz7] at HSET8 HNew8 HN8
      unfold ndC at HSET7 HSET8 HN78 HN8 CS hq
      unfold zeroNd at HSET7 HNew7 HSET8 HNew8
      clear hrg hrg6 hg6 hsz6 hW7 hW8 hE7 hE8 hE68 hEw6 hEw7 hn7 hn8 hn78 h27 hD hA hD2 hA2 hmg hlt6 hfit hy
      unfold ndC at hen
      go_wp2_with (first | (refine wpList_store_row rfl 88 (.tmp 8) (.tmp 22) rfl w6.heap.size _ rfl rfl 88 _ HNew7.out sizeNd rfl (cells_node y da aa _ _ dc ac) ?_; rw [HSET7.out]) | (refine wpList_store_row rfl 88 (.tmp 9) (.tmp 27) rfl (w6.heap.size + 1) _ rfl rfl 88 _ HNew8.out sizeNd rfl (cells_node y db ab _ _ dd ad) ?_; rw [HSET8.out]) | (refine wpList_load_row_g rfl 88 (.tmp 8) rfl w6.heap.size rfl 88 _ (0, 0) _ HN78.out Tryz.underlying88 rfl sizeNd ?_) | (refine wpList_load_row_g rfl 88 (.tmp 9) rfl (w6.heap.size + 1) rfl 88 _ (0, 0) _ HN8.out Tryz.underlying88 rfl sizeNd ?_))
      refine CS.out.mono ?_
      rintro e w9 ⟨rfl, hE9⟩
      have hE9 : Ext W8 w9 := hE9
      have hrg9 := HRG8.out.kept (grown_ext hE9 none) (by simp) (by simp)
      have HREL := Lib.hid (show ∃ (left : Lit → Bool) (cnt : Nat), Value.bool false = .bool false ∧ w9.ranges Tryz.prog 9 Rv bn1 w.heap.size m1.length (kvD m1) left cnt ∧ Ext w w9 from ⟨_, _, rfl, hrg9, HEW8.out.trans hE9⟩)
      have HMS := Lib.hid (show w9.rangeLeft bn1 w.heap.size < wr.rangeLeft bn1 w.heap.size by rw [hrg9.left_eq, HRG.out.left_eq]; exact HLT.out)
      clear CS hE9 hrg9 HRG8 HRG HN78 HN8 HSET7 HSET8 HNew7 HNew8 hq hen
      go_wp2
      go_roundw
      case rel =>
        obtain ⟨l, c, _, h⟩ := HREL.out
        exact ⟨l, c, rfl, h⟩
      case measure => exact HMS.out

theorem tsame_self (S1 S2 : Nat → Prop) (w : World) (b1 b2 : Nat) (M : List (Key × Nd)) (N1 N2 : Nat) (h1 : TreeAt S1 w b1 M N1) (h2 : TreeAt S2 w b2 M N2) :
    Calls Tryz.prog 29 #[.pointer (some ⟨b1, 0, none⟩), .pointer (some ⟨b2, 0, none⟩)] w fun e w' => e = .returned (.bool true) ∧ Ext w w' := by
  have hB1 := h1.bound
  have hB2 := h2.bound
  obtain ⟨n1, k1, K1, hd1, hN1, _⟩ := h1
  obtain ⟨n2, k2, K2, hd2, hN2, _⟩ := h2
  have hx1 := TreeAt.box hd1
  have hx2 := TreeAt.box hd2
  have HC := Lib.hid fun (W : World) (hE : Ext w W) => eqf_self S1 S2 W n1 n2 M N1 N2 (hN1.keep (hE.block n1 (hd1.bound _ hd1.sn)) (fun _ h => h) (fun b o u hb hu => (hE.cell (p := ⟨b, o, none⟩) (hB1 b hb)).trans hu) (Nat.le_refl _)) (hN2.keep (hE.block n2 (hd2.bound _ hd2.sn)) (fun _ h => h) (fun b o u hb hu => (hE.cell (p := ⟨b, o, none⟩) (hB2 b hb)).trans hu) (Nat.le_refl _))
    (fun k hk => Nat.lt_of_lt_of_le (hB1 k hk) hE.size) (fun k hk => Nat.lt_of_lt_of_le (hB2 k hk) hE.size)
  unfold Box treeC at hx1 hx2
  clear hd1 hd2 hN1 hN2 hB1 hB2
  go_enter Tryz.func29, Tryz.ntmps29
  have hG0 : Ext w w.drew := Ext.drew _
  have HX1 := Lib.hid hx1
  have HX2 := Lib.hid hx2
  have hGx : ∀ (i : Nat) (d d' : Nat → Bool) (u v : World), Ext w u → Ext u v → (∀ k, k ≠ i → d' k = d k) → Ext w v := fun _ _ _ _ _ h k _ => h.trans k
  clear hx1 hx2
  go_wp2
  refine wp_region_P (by kernel_rfl) (region_state_vals 23 (fun _ W => Ext w W) hG0 [.pointer (some ⟨b1, 0, none⟩), .pointer (some ⟨b1, 0, none⟩), .pointer (some ⟨b1, 0, none⟩), .map (some n1), .pointer (some ⟨b2, 0, none⟩), .pointer (some ⟨b2, 0, none⟩), .pointer (some ⟨b2, 0, none⟩), .map (some n2), .bool true, .bool true] rfl (by decide) rfl ?duties ?rest)
  case duties =>
    refine ⟨?_, ?_, ?_, ?_, ?_, ?_, ?_, ?_, ?_, ?_, trivial⟩
    · refine dutyS_ext (hGx _) fun d a w' hG hF hA => ?_
      have x1 := hF.slot 0 _ (by decide) rfl
      exact wp_value (w' := w') (v := .pointer (some ⟨b1, 0, none⟩)) (by simp only [execOp, x1]; simp [go_sem]) ⟨_, rfl, rfl, Ext.refl _⟩
    · refine dutyS_ext (hGx _) fun d a w' hG hF hA => ?_
      have x1 := hA.val 0 14 rfl rfl ⟨⟨0, .data⟩, by simp, rfl, rfl⟩ rfl
      exact wp_value (ex_nilCheck rfl _ x1) ⟨_, rfl, rfl, Ext.refl _⟩
    · refine dutyS_ext (hGx _) fun d a w' hG hF hA => ?_
      have x1 := hA.val 1 15 rfl rfl ⟨⟨1, .data⟩, by simp, rfl, rfl⟩ rfl
      exact wp_value (w' := w') (v := .pointer (some ⟨b1, 0, none⟩)) (by simp only [execOp, x1]; simp [go_sem]) ⟨_, rfl, rfl, Ext.refl _⟩
    · refine dutyS_ext (hGx _) fun d a w' hG hF hA => ?_
      have x1 := hA.val 2 16 rfl rfl ⟨⟨2, .data⟩, by simp, rfl, rfl⟩ rfl
      have hc := HX1.out 0
      exact wp_value (ex_cell rfl _ _ x1 ((hG.cell (p := ⟨b1, 0, none⟩) (World.block_lt_of_cell? _ _ hc)).trans hc) rfl Tryz.underlying92) ⟨_, rfl, rfl, Ext.refl _⟩
    · refine dutyS_ext (hGx _) fun d a w' hG hF hA => ?_
      have x1 := hF.slot 1 _ (by decide) rfl
      exact wp_value (w' := w') (v := .pointer (some ⟨b2, 0, none⟩)) (by simp only [execOp, x1]; simp [go_sem]) ⟨_, rfl, rfl, Ext.refl _⟩
    · refine dutyS_ext (hGx _) fun d a w' hG hF hA => ?_
      have x1 := hA.val 4 18 rfl rfl ⟨⟨4, .data⟩, by simp, rfl, rfl⟩ rfl
      exact wp_value (ex_nilCheck rfl _ x1) ⟨_, rfl, rfl, Ext.refl _⟩
    · refine dutyS_ext (hGx _) fun d a w' hG hF hA => ?_
      have x1 := hA.val 5 19 rfl rfl ⟨⟨5, .data⟩, by simp, rfl, rfl⟩ rfl
      exact wp_value (w' := w') (v := .pointer (some ⟨b2, 0, none⟩)) (by simp only [execOp, x1]; simp [go_sem]) ⟨_, rfl, rfl, Ext.refl _⟩
    · refine dutyS_ext (hGx _) fun d a w' hG hF hA => ?_
      have x1 := hA.val 6 20 rfl rfl ⟨⟨6, .data⟩, by simp, rfl, rfl⟩ rfl
      have hc := HX2.out 0
      exact wp_value (ex_cell rfl _ _ x1 ((hG.cell (p := ⟨b2, 0, none⟩) (World.block_lt_of_cell? _ _ hc)).trans hc) rfl Tryz.underlying92) ⟨_, rfl, rfl, Ext.refl _⟩
    · refine dutyS_ext (hGx _) fun d a w' hG hF hA => ?_
      have x1 := hA.val 3 17 rfl rfl ⟨⟨3, .data⟩, by simp, rfl, rfl⟩ rfl
      have x2 := hA.val 7 21 rfl rfl ⟨⟨7, .data⟩, by simp, rfl, rfl⟩ rfl
      refine wp_enter (ex_call rfl (enters_f Tryz.func55 (by kernel_rfl) rfl)) (by simp only [List.map_toArray, List.map_cons, List.map_nil, x1, x2]; exact HC.out w' hG) ?_
      rintro e w4 ⟨rfl, h4⟩
      exact ⟨_, rfl, _, rfl, rfl, h4⟩
    · refine dutyS_ext (hGx _) fun d a w' hG hF hA => ?_
      have x1 := hA.val 8 22 rfl rfl ⟨⟨8, .data⟩, by simp, rfl, rfl⟩ rfl
      exact wp_value (w' := w') (v := .bool true) (by simp only [execOp, x1]; simp [go_sem]) ⟨_, rfl, rfl, Ext.refl _⟩
  case rest =>
    intro d W4 hdn hG4
    have HE := Lib.hid hG4
    clear hG4 hdn hG0 hGx HC
    simp only [filled, List.zip_cons_cons, List.zip_nil_left, List.foldl_cons, List.foldl_nil, Act.put, List.setIfInBounds_toArray, List.set_cons_succ, List.set_cons_zero, Exit.inBlock, Exit.then]
    rename_i hK
    refine hK _ _ ?_
    clear hK
    go_wp2
    go_ret
    exact ⟨rfl, HE.out⟩
end Go.Proofs.YtclekhjnnljjlaaGreatDoor
namespace Go.Proofs.YtclekhjnnljjlaaGreatDoor
open Go.RowKit
set_option maxHeartbeats 4000000
set_option maxRecDepth 100000

/-- The nodes that the range has come to. -/
structure Laid1 (M : List (Key × Nd)) (left : Lit → Bool) (M' : List (Key × Nd)) : Prop where
  ok : MOk M'
  mem : ∀ x, x ∈ M' ↔ x ∈ M ∧ left (.string x.1) = false
theorem Laid1.step {M : List (Key × Nd)} {left : Lit → Bool} {M' : List (Key × Nd)} (h : Laid1 M left M') {n : Nd} (hn : rightN n = 0) (hm : (keyN n, n) ∈ M) (hs : MSorted M) : Laid1 M (fun z => left z && !z.sameKey (.string (keyN n))) (mput M' (keyN n) n) := by
  have hsame : ∀ k : Key, (Lit.string k).sameKey (.string (keyN n)) = (k == keyN n) := fun k => rfl
  refine ⟨h.ok.put n hn, fun x => ?_⟩
  rw [mem_mput, h.mem, hsame]
  simp only [Bool.and_eq_false_iff, Bool.not_eq_false', beq_iff_eq]
  constructor
  · rintro (rfl | ⟨⟨h1, h2⟩, h3⟩)
    · exact ⟨hm, .inr rfl⟩
    · exact ⟨h1, .inl h2⟩
  · rintro ⟨h1, h2⟩
    by_cases e : x.1 = keyN n
    · refine .inl (Prod.ext e ?_)
      have h3 : mget M x.1 = some x.2 := mget_of_mem hs h1
      rw [e, mget_of_mem hs hm] at h3
      exact (Option.some.inj h3).symm
    · exact .inr ⟨⟨h1, h2.resolve_right e⟩, e⟩
theorem Laid1.new {M : List (Key × Nd)} {left : Lit → Bool} {M' : List (Key × Nd)} (h : Laid1 M left M') {k : Key} (hl : left (.string k) = true) : mget M' k = none :=
  mget_none_of fun x hx e => by
    have := ((h.mem x).1 hx).2
    rw [e, hl] at this; cases this
theorem Laid1.done {M : List (Key × Nd)} {left : Lit → Bool} {M' : List (Key × Nd)} (h : Laid1 M left M') (hs : MSorted M) (hl : ∀ kl, left kl = false) : M' = M :=
  mem_ext_sorted h.ok.sorted hs fun x => by rw [h.mem, hl]; simp
theorem mput_len_new {M : List (Key × Nd)} {k : Key} {n : Nd} (h : mget M k = none) : (mput M k n).length = M.length + 1 := by
  unfold mput
  rw [mins_length]
  congr 1
  unfold mdel
  rw [List.filter_eq_self.2 fun x hx => by simpa using mget_none h x hx]

theorem ranges_blocks {H : Type} {P : Program} {k : TypeId} {R : Value → Option (DataW H × List MemPlace)} {w w' : World} {b r n : Nat} {D : DataW H} {left : Lit → Bool} {cnt : Nat} (h : w.ranges P k R b r n D left cnt) (hb : w'.heap[b]? = w.heap[b]?) (hr : w'.heap[r]? = w.heap[r]?) : w'.ranges P k R b r n D left cnt := by
  obtain ⟨es, clock, since, seen, c0, h1, F, hs, hD, h2, rest⟩ := h
  exact ⟨es, clock, since, seen, c0, hb.trans h1, F, hs, hD, hr.trans h2, rest⟩

def TCloneOut (M : List (Key × Nd)) (w : World) (e : Ending) (w' : World) : Prop := ∃ b, e = .returned (.pointer (some ⟨b, 0, none⟩)) ∧ TreeAt (fun k => w.heap.size ≤ k ∧ k < w'.heap.size) w' b M M.length ∧ Ext w w'

theorem tclone_any (S : Nat → Prop) (w : World) (bt : Nat) (M : List (Key × Nd)) (N : Nat) (hT : TreeAt S w bt M N) (hl : M.length < 4611686018427387904) : Calls Tryz.prog 48 #[.pointer (some ⟨bt, 0, none⟩)] w (TCloneOut M w) := by
  obtain ⟨W1, hW1⟩ : ∃ W1, W1 = emptyW w := ⟨_, rfl⟩
  have hz : W1.heap.size = w.heap.size + 1 + 1 + 1 := by rw [hW1]; exact emptyW_size w
  have hE : Ext w W1 := by rw [hW1]; exact emptyW_ext w
  have hTr : TreeAt (fun k => w.heap.size ≤ k ∧ k < W1.heap.size) W1 (w.heap.size + 1 + 1) [] 0 := by rw [hW1]; exact tree_empty w
  have hmm := @run_makeMap Tryz.prog
  have hT1 := hT.ext hE
  have hok := hT.ok
  obtain ⟨bn, bk, K, hd, hNd, hKd⟩ := hT1
  have hx := TreeAt.box hd
  obtain ⟨mm, hm, hr⟩ := hNd.ex
  have hbl : bn < w.heap.size := hT.bound bn hd.sn
  have HBD := Lib.hid hT.bound
  have HM := hm
  have HR := Lib.hid hr
  have HTR := Lib.hid hTr
  have HE := Lib.hid hE
  have HOK := Lib.hid hok
  have hrl := hr.length
  unfold Box treeC at hx
  unfold emptyW treeC at hW1
  rw [hW1] at hx HM
  have HW1 := Lib.hid hW1
  clear hm hW1 hd hNd hKd hT hr hTr hE hok
  go_enter Tryz.func48, Tryz.ntmps48
  go_wp2_with (at_range; refine wpList_range_own _ rfl _ 92 rfl 9 88 (Maps.string_keyed strT) Tryz.underlying92 Rv bn _ _ rfl HM ?_; intro w0 hrg0 hg0 hs0)
  go_frame
  rw [← HW1.out] at hrg0 hg0 hs0
  rw [hz] at hrg0 hs0
  rw [show (((w.alloc (.map #[] 0)).alloc (.map #[] 0)).alloc (.cells #[.map (some w.heap.size), .map (some (w.heap.size + 1))] 95)) = W1 from HW1.out.symm]
  have hEr : Ext W1 w0 := ⟨hg0.os, hg0.tape, hg0.output, hg0.size, fun k hk => hg0.block k hk (by simp)⟩
  have hT0 := HTR.out.ext hEr
  have HRG0 := Lib.hid hrg0
  have hz0 : w0.heap.size = w.heap.size + 1 + 1 + 1 + 1 := hs0
  have HE0 := Lib.hid (HE.out.trans hEr)
  have HT0 := Lib.hid (hT0.keep (S' := fun k => w.heap.size ≤ k ∧ k < w0.heap.size ∧ k ≠ w.heap.size + 1 + 1 + 1) (fun _ _ => rfl) (fun k hk => ⟨hk.1, by omega, by omega⟩) (fun k hk => hk.2.1) (Nat.le_refl _))
  clear hx HM hrg0 hg0 hs0 hEr hT0 HTR
  rw [hz]
  go_loopw [] (fun wr => ∃ (left : Lit → Bool) (cnt : Nat) (M' : List (Key × Nd)), wr.ranges Tryz.prog 9 Rv bn (w.heap.size + 1 + 1 + 1) mm.length (kvD mm) left cnt ∧ Hid (Laid1 M left M') ∧ Hid (TreeAt (fun k => w.heap.size ≤ k ∧ k < wr.heap.size ∧ k ≠ w.heap.size + 1 + 1 + 1) wr (w.heap.size + 1 + 1) M' M'.length) ∧ M'.length + cnt ≤ mm.length ∧ Ext w wr) (fun wr => wr.rangeLeft bn (w.heap.size + 1 + 1 + 1))
  case atStart =>
    refine ⟨_, _, [], HRG0.out, ⟨MOk.nil, fun x => ?_⟩, HT0.out, by simp [kvD, Maps.size], HE0.out⟩
    constructor
    · intro h; simp at h
    · rintro ⟨h1, h2⟩
      rw [kvD_has] at h2
      rcases HR.out.get x.1 with ⟨h3, _⟩ | ⟨y, v, _, h3, _⟩
      · exact absurd rfl (mget_none h3 x h1)
      · rw [h3] at h2; cases h2
  case round =>
    obtain ⟨left, cnt, M', hrg, HL, HT, hle, hE⟩ := hrel
    have HEr := Lib.hid hE
    clear hE HRG0 HT0 HE0
    go_wp2_with (at_next; refine wpList_next_left _ rfl _ rfl 9 strT bn (w.heap.size + 1 + 1 + 1) _ mm left cnt rfl hrg ?_ ?_)
    · intro hl0
      have hdn := HL.out.done HOK.out.sorted hl0
      have hfin : TCloneOut M w (.returned (.pointer (some ⟨w.heap.size + 1 + 1, 0, none⟩))) wr :=
        ⟨_, rfl, by
          have h := HT.out
          rw [hdn] at h
          exact h.keep (fun _ _ => rfl) (fun k hk => ⟨hk.1, hk.2.1⟩) (fun k hk => hk.2) (Nat.le_refl _), HEr.out⟩
      have HFIN := Lib.hid hfin
      clear hfin hrg hdn hl0
      go_wp2
      go_ret
      exact HFIN.out
    · intro s v w6 cnt6 hs hlf hmg hrg6 hlt6 hg6 hsz6 hen
      obtain ⟨n, hn, hv⟩ : ∃ n, mget M s.data.toList = some n ∧ NdS S W1 v n := by
        rcases HR.out.get s.data.toList with ⟨_, h2⟩ | ⟨y, u, h1, h2, h3⟩
        · rw [h2] at hmg; cases hmg
        · rw [h2] at hmg; cases hmg
          exact ⟨y, h1, h3⟩
      obtain ⟨hkey, hrt⟩ := HOK.out.at hn
      have hmem : (keyN n, n) ∈ M := by rw [← hkey]; exact mget_some_mem hn
      rw [hkey] at hlf hrg6
      have hne := HL.out.new hlf
      have HL2 := Lib.hid (HL.out.step hrt hmem HOK.out.sorted)
      obtain ⟨da, dc, aa, ac, rfl, hD, hA⟩ := hv
      have hsz := HEr.out.size
      obtain ⟨W7, hW7⟩ : ∃ W7, W7 = w6.alloc (.cells (ndC n (.slice da n.data.length dc) (.slice aa n.acl.length ac)) 88) := ⟨_, rfl⟩
      have hE7 : Ext w6 W7 := by rw [hW7]; exact Ext.alloc _ _
      have hz7 : W7.heap.size = w6.heap.size + 1 := by rw [hW7]; simp
      have hn7 : W7.heap[w6.heap.size]? = some (.cells (ndC n (.slice da n.data.length dc) (.slice aa n.acl.length ac)) 88 (0, 0)) := by rw [hW7]; exact heap_alloc_new _ _
      have hrl6 := hrg6.lt
      have h67 : ∀ k, k < w6.heap.size → W7.heap[k]? = w6.heap[k]? := fun k hk => hE7.block k hk
      have hr6 : ∀ k, k < wr.heap.size → k ≠ w.heap.size + 1 + 1 + 1 → w6.heap[k]? = wr.heap[k]? := fun k hk hne => hg6.block k hk (fun e => hne (Option.some.inj e))
      have hw7 : ∀ k, k < w.heap.size → W7.heap[k]? = W1.heap[k]? := fun k hk => (h67 k (by omega)).trans ((hr6 k (by omega) (by omega)).trans ((HEr.out.block k hk).trans (HE.out.block k hk).symm))
      have hEw7 : Ext w W7 := HEr.out.trans' ⟨hE7.os.trans hg6.os, hE7.tape.trans hg6.tape, hE7.output.trans hg6.output, by omega, fun k hk => (h67 k (by omega)).trans (hr6 k (by omega) (by omega))⟩
      have hD7 : Cells W7.heap.size W7 da (n.data.map u8v) := (hD.imp (fun _ h => h) fun b o u hb hu => (World.cell?_of_block (hw7 b (HBD.out b hb))).trans hu).cells fun b hb => by have := HBD.out b hb; omega
      have hA7 : Cells W7.heap.size W7 aa (acCs n.acl) := (hA.imp (fun _ h => h) fun b o u hb hu => (World.cell?_of_block (hw7 b (HBD.out b hb))).trans hu).cells fun b hb => by have := HBD.out b hb; omega
      have hT7 := HT.out.keep (w' := W7) (S' := fun k => w.heap.size ≤ k ∧ k < wr.heap.size ∧ k ≠ w.heap.size + 1 + 1 + 1) (fun k hk => (h67 k (by omega)).trans (hr6 k hk.2.1 hk.2.2)) (fun _ h => h) (fun k hk => by have := hk.2.1; omega) (Nat.le_refl _)
      have CL := Lib.hid (lay_any _ W7 (w.heap.size + 1 + 1) M' M'.length hT7 n da aa dc ac hrt hne (by omega) hD7 hA7)
      have hrg7 := hrg6.kept (grown_ext hE7 none) (by simp) (by simp)
      have HRG7 := Lib.hid hrg7
      have HSET := Lib.hid ((setRow_alloc w6 zeroNd (ndC n (.slice da n.data.length dc) (.slice aa n.acl.length ac)) 88).trans hW7.symm)
      have HNEW := Lib.hid (heap_alloc_new w6 (.cells zeroNd 88))
      have HN7 := Lib.hid hn7
      have HEW7 := Lib.hid hEw7
      have HLEN := Lib.hid (mput_len_new (n := n) hne)
      have HRG := Lib.hid hrg
      have HLE : Hid ((mput M' (keyN n) n).length + cnt6 ≤ mm.length) := by unfold Hid; rw [HLEN.out]; omega
      have h6a : w6.heap.size ≤ wr.heap.size := by omega
      have h6b : wr.heap.size ≤ w6.heap.size := by omega
      clear hsz6
      unfold ndC at HSET HN7 CL hen
      unfold zeroNd at HSET HNEW
      clear hrg hrg6 hrg7 hg6 hE7 hEw7 hn7 hW7 h67 hr6 hw7 hD7 hA7 hT7 hD hA hmg hn hmem hne HL
      unfold ndC
      go_wp2_with (first | (refine wpList_store_row rfl 88 (.tmp 5) (.tmp 20) rfl w6.heap.size _ rfl rfl 88 _ HNEW.out sizeNd rfl (cells_node n da aa _ _ dc ac) ?_; rw [HSET.out]) | (refine wpList_load_row rfl 88 (.tmp 5) rfl w6.heap.size rfl 88 _ (0, 0) _ HN7.out Tryz.underlying88 rfl sizeNd ?_))
      refine CL.out.mono ?_
      rintro e w8 ⟨rfl, hT8, hM8⟩
      have hz8 := hM8.size
      have hsame8 : ∀ k, k < W7.heap.size → ¬ (w.heap.size ≤ k ∧ k < wr.heap.size ∧ k ≠ w.heap.size + 1 + 1 + 1) → w8.heap[k]? = W7.heap[k]? := fun k hk hn => by
        rw [hM8.same k _ (Array.getElem?_eq_getElem hk) (.inl hn), Array.getElem?_eq_getElem hk]
      have hE8 : Ext w w8 := HEW7.out.trans' ⟨hM8.os, hM8.tape, hM8.output, hM8.size, fun k hk => hsame8 k (by omega) (fun h => by omega)⟩
      have hrg8 := ranges_blocks HRG7.out (hsame8 bn (by omega) (fun h => by omega)) (hsame8 _ (by omega) (fun h => h.2.2 rfl))
      have hT9 := hT8.keep (S' := fun k => w.heap.size ≤ k ∧ k < w8.heap.size ∧ k ≠ w.heap.size + 1 + 1 + 1) (fun _ _ => rfl) (fun k hk => by
        rcases hk with hk | hk
        · exact ⟨hk.1, by have := hk.2.1; omega, hk.2.2⟩
        · exact ⟨by omega, hk.2, by omega⟩) (fun k hk => hk.2.1) (Nat.le_of_eq HLEN.out.symm)
      have HREL := Lib.hid (show ∃ (left : Lit → Bool) (cnt : Nat) (M' : List (Key × Nd)), w8.ranges Tryz.prog 9 Rv bn (w.heap.size + 1 + 1 + 1) mm.length (kvD mm) left cnt ∧ Hid (Laid1 M left M') ∧ Hid (TreeAt (fun k => w.heap.size ≤ k ∧ k < w8.heap.size ∧ k ≠ w.heap.size + 1 + 1 + 1) w8 (w.heap.size + 1 + 1) M' M'.length) ∧ M'.length + cnt ≤ mm.length ∧ Ext w w8 from ⟨_, _, _, hrg8, HL2.out, hT9, HLE.out, hE8⟩)
      have HMS := Lib.hid (show w8.rangeLeft bn (w.heap.size + 1 + 1 + 1) < wr.rangeLeft bn (w.heap.size + 1 + 1 + 1) by rw [hrg8.left_eq, HRG.out.left_eq]; exact hlt6)
      clear CL hT8 hM8 hsame8 hE8 hrg8 hT9 HRG7 HRG HSET HNEW HN7
      go_wp2
      go_roundw
      case rel => exact HREL.out
      case measure => exact HMS.out
end Go.Proofs.YtclekhjnnljjlaaGreatDoor
