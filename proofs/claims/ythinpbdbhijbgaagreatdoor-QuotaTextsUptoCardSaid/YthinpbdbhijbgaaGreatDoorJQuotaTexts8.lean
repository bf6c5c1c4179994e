/- The walk of (*Tree).under. The plain sums of TreeSums. The walk of (*Tree).Weigh. Plain laws: the paths above a path, the quotas over it, the first one that a change is over. No program in sight. The walk of arborref03.Order. The document's tree in memory; where a path stands in it (arborref07's Find). The walk of arborref07's Insert. A text is appended to a row of the call's own: one law for the walk. The walk of paths.Above. A node put into a new box. A node that was cloned for it is appended to a row of the call's own: one law for the walk. The walks of arborref03's last and Parent. The walk of arborref03.Under. The walks of the reference of stat.Right, and of its look at UTF-8. The walk of the reference of stat.Right. The walk of arborref07.From. The walk of After: a range over the map of nodes, in an order that nobody knows. The walk of stat.Encode, where the node may be. The walk of the sum of bytes; a node's number. The walk of a node's number. The walk of the tree's number: a range over the tree's nodes. A nil tree: what is told of it. The walk of the law's Below: a range over the nodes under a path. The walks of a nil tree's methods. The walks of arborref07's Get and After. The walk of arborref07's Below. -/
import Derived.Test.YthinpbdbhijbgaaGreatDoorJQuotaTexts7
import Derived.Sort.OwnSorted
import Derived.Great.BuildSlice
import Derived.Test.YthinpbdbhijbgaaGreatDoorJQuotaTexts6
import Derived.Test.YthinpbdbhijbgaaGreatDoorJQuotaTexts4
import Derived.BigQuiet
import Derived.Test.YthinpbdbhijbgaaGreatDoorJQuotaTexts5
import Derived.Test.YthinpbdbhijbgaaGreatDoorRev
import Derived.Test.YthinpbdbhijbgaaGreatDoorJQuotaTexts3
import Derived.Test.YthinpbdbhijbgaaGreatDoorJQuotaTexts1
import Derived.Maps.RangeWalk
namespace Go.Proofs.YthinpbdbhijbgaaGreatDoor
open Go.RowKit Go.Sort
set_option maxHeartbeats 2000000
set_option maxRecDepth 100000

/-- An operation that leaves memory. -/
theorem dutyS_same {P : Program} {ops : Array Oper} {Q : Exit → Act → World → Prop} {a0 : Act} {i : Nat} {o : Oper} {G : (Nat → Bool) → World → Prop} {Φ : Nat → Value → Prop} (hG : ∀ d d' w, G d w → (∀ k, k ≠ i → d' k = d k) → G d' w)
    (h : ∀ d a w, G d w → Framed ops a0 a → Ahead ops (fun i v _ => Φ i v) o a w → ∃ v, (execOp a.eval o).run P w = .ok (.value v) w ∧ Φ i v) : DutyS P ops Q G Φ a0 i o := by
  intro d a w _ _ _ hGw hF hA
  obtain ⟨v, hr, hv⟩ := h d a w hGw hF hA
  refine wp_value hr ⟨v, rfl, hv, hG d _ _ hGw fun k hk => ?_⟩
  have : (k == i) = false := by simpa using hk
  rw [this, Bool.or_false]

theorem ext_grown {a b : World} (h : Ext a b) (row : Option Nat) : a.grownBy b row := ⟨h.os, h.tape, h.output, h.size, fun k hk _ => h.block k hk⟩
theorem ownBlock_at {w : World} {base e size n : Nat} {v : Value} {xs : List Value} (h : w.ownsRow base e size v n xs) (k : Nat) (hk : v.ownBlock = some k) : ∃ c, w.heap[k]? = some (.cells c e (0, 0)) := by
  rcases h.2 with ⟨rfl, _⟩ | ⟨g, cap, cur, rfl, _, hg, _⟩
  · simp [Value.ownBlock] at hk
  · simp [Value.ownBlock] at hk
    subst hk
    exact ⟨_, hg⟩

/-- A range over a map that may be nil: which names are left. -/
def RngAt (W : World) (r : Nat) (mb : Option Nat) (L : List (Key × Value)) (left : Key → Bool) : Prop :=
  match mb with
  | some b => ∃ (lf : Lit → Bool) (cnt : Nat), (∀ k, lf (.string k) = left k) ∧ W.ranges Tryz.prog 9 Rv b r L.length (kvD L) lf cnt
  | none => L = [] ∧ (∀ k, left k = false) ∧ W.heap[r]? = some (.mapIter none 0 #[] 0)
def rngLeft (mb : Option Nat) (r : Nat) (W : World) : Nat := match mb with | some b => W.rangeLeft b r | none => 0

theorem RngAt.iter {W : World} {r : Nat} {mb : Option Nat} {L : List (Key × Value)} {left : Key → Bool} (h : RngAt W r mb L left) : ∃ m s c d, W.heap[r]? = some (.mapIter m s c d) := by
  cases mb with
  | some b =>
    obtain ⟨lf, cnt, _, es, clock, since, seen, c0, _, _, _, _, hr, _⟩ := h
    exact ⟨_, _, _, _, hr⟩
  | none => exact ⟨_, _, _, _, h.2.2⟩
theorem RngAt.kept {W W' : World} {r : Nat} {mb : Option Nat} {L : List (Key × Value)} {left : Key → Bool} {row : Option Nat} (h : RngAt W r mb L left) (hg : W.grownBy W' row) (hb : ∀ b, mb = some b → some b ≠ row) (hr : some r ≠ row) : RngAt W' r mb L left ∧ rngLeft mb r W' = rngLeft mb r W := by
  cases mb with
  | some b =>
    obtain ⟨lf, cnt, h1, h2⟩ := h
    have h3 := h2.kept hg (hb b rfl) hr
    exact ⟨⟨lf, cnt, h1, h3⟩, by show W'.rangeLeft b r = W.rangeLeft b r; rw [h3.left_eq, h2.left_eq]⟩
  | none =>
    obtain ⟨h1, h2, h3⟩ := h
    exact ⟨⟨h1, h2, (hg.block r (Array.getElem?_eq_some_iff.1 h3).1 hr).trans h3⟩, rfl⟩

section
variable {ops : Array Oper} {rest : List Oper} {o : Oper} {a : Act} {Q : Exit → Act → World → Prop}
theorem run_next_none {P : Program} (w : World) (ty : TypeId) (r s c : Nat) (d : Array Nat) (h : w.heap[r]? = some (.mapIter none s d c)) : (Instr.next (.pointer (some ⟨r, 0, none⟩)) false ty).run P w = .ok (.tuple #[.bool false]) w := by
  simp only [Instr.next, getObj, Sem.run_bind, Sem.run, h, Result.andThen]
  rfl
theorem wpList_next_any (w : World) (hg : o.guard = none) (it : Operand) (hop : o.op = Op.next it false) (mb : Option Nat) (r : Nat) (L : List (Key × Value)) (left : Key → Bool)
    (hit : a.eval it = .pointer (some ⟨r, 0, none⟩)) (h : RngAt w r mb L left)
    (hDone : (∀ k, left k = false) → wpList Tryz.prog ops Q rest (a.put o.dst (.tuple #[.bool false])) w)
    (hMore : ∀ (s : ByteArray) (v : Value) (w' : World), s.size ≤ maxLen → left s.data.toList = true → mget L s.data.toList = some v → RngAt w' r mb L (fun k => left k && !(k == s.data.toList)) → rngLeft mb r w' < rngLeft mb r w →
      w.grownBy w' (some r) → w'.heap.size = w.heap.size → (Instr.entry (.pointer (some ⟨r, 0, none⟩))).run Tryz.prog w' = .ok (.tuple #[.string s, v]) w' → wpList Tryz.prog ops Q rest (a.put o.dst (.tuple #[.bool true, .string s, v])) w') :
    wpList Tryz.prog ops Q (o :: rest) a w := by
  cases mb with
  | some b =>
    obtain ⟨lf, cnt, h1, h2⟩ := h
    refine wpList_next_left w hg it hop 9 strT b r L.length L lf cnt hit h2 (fun hl => hDone fun k => by rw [← h1]; exact hl _) fun s v w' cnt' hs hls hm hrg hlt hgr hsz hen => ?_
    refine hMore s v w' hs (by rw [← h1]; exact hls) hm ⟨_, cnt', fun k => ?_, hrg⟩ ?_ hgr hsz hen
    · show (lf (.string k) && !(k == s.data.toList)) = _
      rw [h1]
    · show w'.rangeLeft b r < w.rangeLeft b r
      rw [hrg.left_eq, h2.left_eq]; exact hlt
  | none =>
    obtain ⟨h1, h2, h3⟩ := h
    refine wpList_plain hg fun K' hK' => ?_
    unfold Oper.wp
    simp [execOp, hop, hit, run_next_none w o.type r 0 0 #[] h3, Result.andThen]
    exact hK' _ _ (hDone h2)
end

/-- What the region that ranges leaves. -/
def UnG (Wr : World) (mb : Option Nat) (L : List (Key × Value)) (d : Nat → Bool) (W : World) : Prop :=
  if d 9 = true then RngAt W Wr.heap.size mb L (fun k => (mget L k).isSome) ∧ Wr.grownBy W none ∧ W.heap.size = Wr.heap.size + 1 else Ext Wr W ∧ W.heap.size = Wr.heap.size
theorem UnG.same {Wr : World} {mb : Option Nat} {L : List (Key × Value)} {i : Nat} (hi : i ≠ 9) (d d' : Nat → Bool) (w : World) (h : UnG Wr mb L d w) (hd : ∀ k, k ≠ i → d' k = d k) : UnG Wr mb L d' w := by
  unfold UnG at h ⊢
  rw [hd 9 (Ne.symm hi)]
  exact h

theorem Bfs.enter {M : List (Key × Nd)} {s : ByteArray} {l : List ByteArray} {i : Nat} {p : ByteArray} (h : Bfs M s l i (fun _ => true)) (hp : l[i]? = some p) : Bfs M s l i (fun k => (mget (kidsOf M p) k).isSome) := by
  refine ⟨h.head, h.nodup, h.mem, h.done, fun q hq x hx hc hl => ?_, fun q hq => ?_⟩
  · exfalso
    have e : p = q := Option.some.inj (hp.symm.trans hq)
    subst e
    have hm : (nameK x.2, Value.agg #[]) ∈ kidsOf M p := mem_kids.2 ⟨x, hx, hc, rfl⟩
    cases hg : mget (kidsOf M p) (nameK x.2) with
    | none => exact mget_none hg _ hm rfl
    | some v => rw [hg] at hl; cases hl
  · rcases h.back q hq with e | ⟨j, r, h1, h2, h3, h4⟩
    · exact .inl e
    · refine .inr ⟨j, r, h1, h2, h3, .inl ?_⟩
      rcases h4 with h4 | ⟨_, h4⟩
      · exact h4
      · cases h4

theorem strInfo : ∃ i, Tryz.prog.info? 9 = some i ∧ i.zero = some (.string ⟨#[]⟩) ∧ i.size = 1 ∧ i.bytes = 16 := info_parts infoStr

def UndL (M : List (Key × Nd)) (s : ByteArray) : List Key := if (mget M s.data.toList).isSome = true then undK M s else []

set_option maxHeartbeats 8000000 in
theorem under_any (S : Nat → Prop) (w : World) (bt : Nat) (M : List (Key × Nd)) (N : Nat) (hT : TreeAt S w bt M N) (hc : Clo M) (s : ByteArray) (hs : s.size ≤ maxLen) (hN : M.length * 16 ≤ 140737488355328) :
    Calls Tryz.prog 149 #[.pointer (some ⟨bt, 0, none⟩), .string s] w (SortedOut (UndL M s) w) := by
  have C1 := tget_any S w bt M N hT s hs
  have HT := Lib.hid hT
  clear hT
  go_enter Tryz.func149, Tryz.ntmps149
  go_wp2_with fail
  refine C1.mono ?_
  rintro e w1 ⟨v, rfl, hv, hE1⟩
  obtain ⟨da, dc, aa, ac, rfl, hD, hA⟩ := hv
  generalize (mget M s.data.toList).getD zeroN = n at *
  clear hD hA
  obtain ⟨W2, hW2⟩ : ∃ W2, W2 = w1.alloc (.cells (ndC n (.slice da n.data.length dc) (.slice aa n.acl.length ac)) 44) := ⟨_, rfl⟩
  have HSET := Lib.hid ((setRow_alloc w1 zeroNd (ndC n (.slice da n.data.length dc) (.slice aa n.acl.length ac)) 44).trans hW2.symm)
  have HNew := Lib.hid (heap_alloc_new w1 (.cells zeroNd 44))
  have hE2 : Ext w1 W2 := by rw [hW2]; exact Ext.alloc _ _
  have hEw2 := hE1.trans hE2
  unfold ndC at HSET ⊢
  unfold zeroNd at HSET HNew
  have HEW := Lib.hid hEw2
  clear C1 hW2 hE1 hE2 hEw2
  cases hg : mget M s.data.toList with
  | none =>
    have hfin : SortedOut (UndL M s) w (.returned (.slice none 0 0)) W2 := by
      have e : UndL M s = [] := by unfold UndL; rw [hg]; rfl
      rw [e]
      exact ⟨_, rfl, World.ownsRow_nil _ _ _ _, by simp, HEW.out⟩
    have HFIN := Lib.hid hfin
    clear hfin hg
    go_wp2_with (refine wpList_store_row rfl 44 (.tmp 5) (.tmp 16) rfl w1.heap.size _ rfl rfl 44 _ HNew.out sizeNd rfl (cells_node n da aa _ _ dc ac) ?_; rw [HSET.out])
    go_ret
    exact HFIN.out
  | some y =>
    have hM := HT.out.ok
    have hys := hM.at hg
    have hmem := mget_some_mem hg
    have hyp : y.path = s := (ba_ext hys.1).symm
    have hu : UndL M s = undK M s := by unfold UndL; rw [hg]; rfl
    have hrow0 : (W2.alloc (.cells #[.string s] 9)).ownsRow W2.heap.size 9 1 (.slice (some ⟨W2.heap.size, 0, none⟩) 1 1) 1 [.string s] := World.ownsRow_lit W2 #[.string s] 1 (Nat.le_refl _) (by unfold maxLen; decide) rfl
    have hB0 : Bfs M s [s] 0 (fun _ => true) := by have := Bfs.start hmem; simpa [hyp] using this
    have hEA : Ext w (W2.alloc (.cells #[.string s] 9)) := HEW.out.trans (Ext.alloc _ _)
    have HB0 := Lib.hid hB0
    have HR0 := Lib.hid hrow0
    have HEA := Lib.hid hEA
    have HG := Lib.hid hg
    have HU := Lib.hid hu
    have hzw := HEW.out.size
    have HM := Lib.hid hM
    have HC := Lib.hid hc
    clear hg hu hrow0 hB0 hEA hmem hys hyp hM hc
    go_wp2_with (refine wpList_store_row rfl 44 (.tmp 5) (.tmp 16) rfl w1.heap.size _ rfl rfl 44 _ HNew.out sizeNd rfl (cells_node n da aa _ _ dc ac) ?_; rw [HSET.out])
    go_loopw [7, 8] (fun lv i wr => ∃ (k : Nat) (l : List ByteArray), i = .int .i64 k ∧ k ≤ l.length ∧ Bfs M s l k (fun _ => true) ∧ wr.ownsRow W2.heap.size 9 1 lv l.length (l.map Value.string) ∧ Ext w wr) (fun _ i _ => M.length - (intOf i).toNat)
    case atStart => exact ⟨0, [s], rfl, Nat.zero_le _, HB0.out, HR0.out, HEA.out⟩
    case round =>
      obtain ⟨k, l, rfl, hkl, hB, hrow, hE⟩ := hrel
      obtain ⟨wo, hwo⟩ : ∃ x, x = wr := ⟨_, rfl⟩
      subst hwo
      have hlM := hB.length_le
      have hl64 : l.length ≤ 9223372036854775807 := by omega
      by_cases hlt : k < l.length
      · have hne : u7 ≠ .slice none 0 0 := fun e => by
          subst e
          rcases hrow.2 with ⟨_, h⟩ | ⟨_, _, _, h, _⟩
          · omega
          · cases h
        obtain ⟨g, cap, hlv, hgb, hgc⟩ : ∃ g cap, u7 = .slice (some ⟨g, 0, none⟩) l.length cap ∧ W2.heap.size ≤ g ∧ wo.cell? ⟨g, k, none⟩ = some (.string l[k]) := by
          rcases hrow.2 with ⟨h, _⟩ | ⟨g, cap, cur, h, hb, _⟩
          · exact absurd h hne
          · refine ⟨g, cap, h, hb, ?_⟩
            have := hrow.cells (g := g) (by rw [h]; rfl) k (.string l[k]) (by rw [List.getElem?_map, List.getElem?_eq_getElem hlt]; rfl)
            rw [addr_add, Nat.zero_add] at this
            exact this
        subst hlv
        have hp : l[k]? = some l[k] := List.getElem?_eq_getElem hlt
        generalize l[k] = p at hgc hp
        obtain ⟨y2, hy2, eyp, _⟩ := hB.mem p (List.mem_of_getElem? hp)
        have hpv := (vpath_facts (right_vpath (HM.out.right y2 hy2))).2.1
        rw [eyp] at hpv
        have hps : p.size ≤ maxLen := by unfold maxLen; omega
        have hTr := HT.out.ext hE
        obtain ⟨bn, bk, mb, hmS, hlook⟩ := hTr.kids_look p hps
        have hG0 : UnG wo mb (kidsOf M p) (fun _ => false) wo.drew := by
          unfold UnG
          simp only [Bool.false_eq_true, if_false]
          exact ⟨Ext.drew _, rfl⟩
        have hsame : ∀ (d : Nat → Bool) (W : World), UnG wo mb (kidsOf M p) d W → Ext wo W := fun d W h => by
          unfold UnG at h
          split at h
          · exact ⟨h.2.1.os, h.2.1.tape, h.2.1.output, h.2.1.size, fun k hk => h.2.1.block k hk (by simp)⟩
          · exact h.1
        have hcell : ∀ (d : Nat → Bool) (W : World), UnG wo mb (kidsOf M p) d W → (∀ k, S k → W.heap[k]? = wo.heap[k]?) ∧ W.cell? ⟨g, k, none⟩ = some (.string p) := fun d W h =>
          ⟨fun k hk => (hsame d W h).block k (hTr.bound k hk), ((hsame d W h).cell (p := ⟨g, k, none⟩) (World.block_lt_of_cell? _ _ hgc)).trans hgc⟩
        have HL := Lib.hid hlook
        have HG0 := Lib.hid hG0
        have HCE := Lib.hid hcell
        have HROW := Lib.hid hrow
        have HBf := Lib.hid hB
        have HE := Lib.hid hE
        have HP := Lib.hid hp
        have HMS := Lib.hid hmS
        have HY2 := Lib.hid (And.intro hy2 eyp)
        clear hlook hG0 hcell hrow hB hE hp hsame hTr hmS hgc hy2 eyp hpv
        have hkL : k < l.length := hlt
        go_wp2
        refine wp_region_P (by kernel_rfl) (region_state_vals 58 (UnG wo mb (kidsOf M p)) HG0.out [.pointer (some ⟨bt, 0, none⟩), .pointer (some ⟨bt, 0, none⟩), .pointer (some ⟨bt, 1, none⟩), .map (some bk), .slice (some ⟨g, 0, none⟩) l.length cap, .int .i64 k, .pointer (some ⟨g, k, none⟩), .string p, .map mb, .pointer (some ⟨wo.heap.size, 0, none⟩)] rfl (by decide) rfl ?duties ?rest)
        case duties =>
          refine ⟨?_, ?_, ?_, ?_, ?_, ?_, ?_, ?_, ?_, ?_, trivial⟩
          · refine dutyS_same (UnG.same (by decide)) fun d a w' hG hF hA => ?_
            have x1 := hF.slot 0 _ (by decide) rfl
            exact ⟨.pointer (some ⟨bt, 0, none⟩), by simp only [execOp, x1]; simp [go_sem], rfl⟩
          · refine dutyS_same (UnG.same (by decide)) fun d a w' hG hF hA => ?_
            have x1 := hA.val 0 28 rfl rfl ⟨⟨0, .data⟩, by simp, rfl, rfl⟩ rfl
            exact ⟨_, ex_nilCheck rfl _ x1, rfl⟩
          · refine dutyS_same (UnG.same (by decide)) fun d a w' hG hF hA => ?_
            have x1 := hA.val 1 29 rfl rfl ⟨⟨1, .data⟩, by simp, rfl, rfl⟩ rfl
            exact ⟨.pointer (some ⟨bt, 1, none⟩), by simp only [execOp, x1]; simp [go_sem], rfl⟩
          · refine dutyS_same (UnG.same (by decide)) fun d a w' hG hF hA => ?_
            have x1 := hA.val 2 30 rfl rfl ⟨⟨2, .data⟩, by simp, rfl, rfl⟩ rfl
            exact ⟨_, ex_cell rfl _ _ x1 ((HL.out w' (HCE.out d w' hG).1).1 1) rfl Tryz.underlying121, rfl⟩
          · refine dutyS_same (UnG.same (by decide)) fun d a w' hG hF hA => ?_
            have x1 := hF.slot 7 _ (by decide) rfl
            exact ⟨.slice (some ⟨g, 0, none⟩) l.length cap, by simp only [execOp, x1]; simp [go_sem], rfl⟩
          · refine dutyS_same (UnG.same (by decide)) fun d a w' hG hF hA => ?_
            have x1 := hF.slot 8 _ (by decide) rfl
            exact ⟨.int .i64 k, by simp only [execOp, x1]; simp [go_sem], rfl⟩
          · refine dutyS_same (UnG.same (by decide)) fun d a w' hG hF hA => ?_
            have x1 := hA.val 4 32 rfl rfl ⟨⟨4, .data⟩, by simp, rfl, rfl⟩ rfl
            have x2 := hA.val 5 33 rfl rfl ⟨⟨5, .data⟩, by simp, rfl, rfl⟩ rfl
            exact ⟨.pointer (some ⟨g, k, none⟩), by simp only [execOp, x1, x2]; simp [go_sem, hkL], rfl⟩
          · refine dutyS_same (UnG.same (by decide)) fun d a w' hG hF hA => ?_
            have x1 := hA.val 6 34 rfl rfl ⟨⟨6, .data⟩, by simp, rfl, rfl⟩ rfl
            exact ⟨_, ex_cell rfl _ _ x1 (HCE.out d w' hG).2 rfl strT, rfl⟩
          · refine dutyS_same (UnG.same (by decide)) fun d a w' hG hF hA => ?_
            have x1 := hA.val 3 31 rfl rfl ⟨⟨3, .data⟩, by simp, rfl, rfl⟩ rfl
            have x2 := hA.val 7 35 rfl rfl ⟨⟨7, .data⟩, by simp, rfl, rfl⟩ rfl
            have hl := (HL.out w' (HCE.out d w' hG).1).2.1
            exact ⟨.map mb, by simp only [execOp, x1, x2]; simp [go_sem, hl], rfl⟩
          · intro d a w' hdi _ _ hG hF hA
            have x1 := hA.val 8 36 rfl rfl ⟨⟨8, .data⟩, by simp, rfl, rfl⟩ rfl
            have hd : d 9 = false := hdi
            obtain ⟨_, _, hmb, hnil, _⟩ := HL.out w' (HCE.out d w' hG).1
            unfold UnG at hG
            rw [if_neg (by rw [hd]; simp)] at hG
            obtain ⟨hEe, hsz⟩ := hG
            have hone : ∃ w4, (Instr.range 157 (.map mb)).run Tryz.prog w' = .ok (.pointer (some ⟨wo.heap.size, 0, none⟩)) w4 ∧ RngAt w4 wo.heap.size mb (kidsOf M p) (fun k => (mget (kidsOf M p) k).isSome) ∧ wo.grownBy w4 none ∧ w4.heap.size = wo.heap.size + 1 := by
              have hgE : wo.grownBy w' none := ⟨hEe.os, hEe.tape, hEe.output, hEe.size, fun k hk _ => hEe.block k hk⟩
              cases hmbc : mb with
              | some b =>
                obtain ⟨w4, h1, h2, h3, h4⟩ := (show w'.ownsMap Tryz.prog 9 Rv b _ _ from hmb b hmbc).range (Maps.string_keyed strT) Tryz.underlying157
                rw [hsz] at h1 h2
                refine ⟨w4, h1, ⟨_, _, fun k => kvD_has _ k, h2⟩, ⟨h3.os.trans hgE.os, h3.tape.trans hgE.tape, h3.output.trans hgE.output, by omega, fun k hk hn => (h3.block k (by omega) hn).trans (hgE.block k hk hn)⟩, by omega⟩
              | none =>
                have h1 := run_range_nilMap (P := Tryz.prog) w' 157 9 205 Tryz.underlying157
                rw [hsz] at h1
                have h3 := hnil hmbc
                refine ⟨_, h1, ⟨h3, fun k => by rw [h3]; rfl, by rw [← hsz]; exact heap_alloc_new w' _⟩, ⟨hgE.os, hgE.tape, hgE.output, by simp; omega, fun k hk hn => (heap_alloc_old w' _ (by omega)).trans (hgE.block k hk hn)⟩, by simp [hsz]⟩
            obtain ⟨w4, h1, h2⟩ := hone
            refine wp_value (w' := w4) (v := .pointer (some ⟨wo.heap.size, 0, none⟩)) (by simp only [execOp, x1]; simp [h1, Result.andThen]) ⟨_, rfl, rfl, ?_⟩
            show UnG wo mb (kidsOf M p) (fun k => d k || k == 9) w4
            unfold UnG
            rw [if_pos (by simp)]
            exact h2
        case rest =>
          intro d W5 hdn hG5
          have h9 := hdn 9 (by decide)
          unfold UnG at hG5
          rw [if_pos h9] at hG5
          obtain ⟨hRg, hgr, hsz5⟩ := hG5
          have hzr := HROW.out.lt g rfl
          have hrow5 := HROW.out.kept hgr (.inr (by simp [Value.ownBlock]))
          have hE5 : Ext w W5 := HE.out.trans ⟨hgr.os, hgr.tape, hgr.output, hgr.size, fun k hk => hgr.block k hk (by simp)⟩
          have hB5 := HBf.out.enter HP.out
          have HRg := Lib.hid hRg
          have HROW5 := Lib.hid hrow5
          have HE5 := Lib.hid hE5
          have HB5 := Lib.hid hB5
          clear hRg hrow5 hE5 hB5 hgr h9 hdn HG0 HL HCE
          simp only [filled, List.zip_cons_cons, List.zip_nil_left, List.foldl_cons, List.foldl_nil, Act.put, List.setIfInBounds_toArray, List.set_cons_succ, List.set_cons_zero, Exit.inBlock, Exit.then]
          rename_i hK
          refine hK _ _ ?_
          clear hK
          go_wp2
          go_loopw [7] (fun lv wr2 => ∃ (l2 : List ByteArray) (left : Key → Bool), l2[k]? = some p ∧ Bfs M s l2 k left ∧ wr2.ownsRow W2.heap.size 9 1 lv l2.length (l2.map Value.string) ∧ RngAt wr2 wo.heap.size mb (kidsOf M p) left ∧ Ext w wr2) (fun _ wr2 => rngLeft mb wo.heap.size wr2)
          case atStart => exact ⟨l, _, HP.out, HB5.out, HROW5.out, HRg.out, HE5.out⟩
          case round =>
            obtain ⟨l2, left, hp2, hB2, hrow2, hRg2, hE2⟩ := hrel
            have hl2M := hB2.length_le
            have hk2 : k < l2.length := (List.getElem?_eq_some_iff.1 hp2).1
            obtain ⟨g2, cap2, hlv2, hgb2⟩ : ∃ g cap, u7 = .slice (some ⟨g, 0, none⟩) l2.length cap ∧ W2.heap.size ≤ g := by
              rcases hrow2.2 with ⟨_, h⟩ | ⟨g, cap, cur, h, hb, _⟩
              · omega
              · exact ⟨g, cap, h, hb⟩
            subst hlv2
            obtain ⟨it1, it2, it3, it4, hit⟩ := hRg2.iter
            have hgr2 : g2 ≠ wo.heap.size := fun e => by
              obtain ⟨c, hc⟩ := ownBlock_at hrow2 g2 rfl
              rw [e, hit] at hc
              cases hc
            have HRW2 := Lib.hid hrow2
            have HB2 := Lib.hid hB2
            have HP2 := Lib.hid hp2
            have HE2 := Lib.hid hE2
            clear hrow2 hB2 hp2 hE2 hit HRg HROW5 HE5 HB5 HROW HBf
            go_wp2_with (at_next; refine wpList_next_any _ rfl _ rfl mb wo.heap.size (kidsOf M p) left rfl hRg2 ?_ ?_)
            · intro hlx
              have hB3 := HB2.out.round HP2.out (fun y hy => hlx y.1)
              have HB3 := Lib.hid hB3
              clear hlx hB3 hRg2
              go_wp2
              go_roundw
              case rel => exact ⟨k + 1, l2, by go_num, by omega, HB3.out, HRW2.out, HE2.out⟩
              case measure => simp [intOf]; omega
            · intro nm nv w6 hnm hln hmg hRg6 hlt6 hg6 hsz6 hen
              obtain ⟨x, hx, hch, he⟩ := mem_kids.1 (mget_some_mem hmg)
              obtain ⟨he1, rfl⟩ := Prod.mk.inj he
              have hMo := HM.out
              have hjn := (join_child hMo hx HY2.out.1 (by rw [HY2.out.2]; exact hch) he1).2
              rw [HY2.out.2] at hjn
              have hps2 : p.size ≤ 140737488355328 := by
                have := (vpath_facts (right_vpath (hMo.right y2 HY2.out.1))).2.1
                rw [HY2.out.2] at this; omega
              have hnm2 : nm.size ≤ 140737488355328 := by
                have h1 := (path_split (right_vpath (hMo.right x hx)) (childOf_iff.1 hch).1).1
                have h2 := (vpath_facts (right_vpath (hMo.right x hx))).2.1
                have h3 := congrArg List.length h1
                rw [List.length_append] at h3
                have h4 : nm.data.toList.length = (nameB x.2.path).data.toList.length := congrArg List.length he1
                rw [← size_list] at h2 ⊢
                omega
              have CJ := join_any p nm w6 hps2 hnm2
              rw [hjn] at CJ
              have hrow6 := HRW2.out.kept hg6 (.inr (by simp [Value.ownBlock]; exact hgr2))
              have hc6 : w6.cell? ⟨g2, k, none⟩ = some (.string p) := by
                have := hrow6.cells (g := g2) rfl k (.string p) (by rw [List.getElem?_map, HP2.out]; rfl)
                rw [addr_add, Nat.zero_add] at this
                exact this
              have hE6 : Ext w w6 := HE2.out.trans' ⟨hg6.os, hg6.tape, hg6.output, hg6.size, fun i hi => hg6.block i (Nat.lt_of_lt_of_le hi HE2.out.size) (fun e => by
                have := Option.some.inj e
                have h1 := HE.out.size
                omega)⟩
              have hBs := HB2.out.step hMo HC.out HP2.out hx hch (by rw [← he1]; exact hln)
              have hxs := (vpath_facts (right_vpath (hMo.right x hx))).2.1
              rw [← he1] at hBs
              have CJ := Lib.hid CJ
              have HRW6 := Lib.hid hrow6
              have HE6 := Lib.hid hE6
              have HBS := Lib.hid hBs
              have HRG6 := Lib.hid hRg6
              have HLT6 := Lib.hid hlt6
              have hk2' : k < l2.length := hk2
              clear hjn hrow6 hE6 hBs hRg6 hlt6 hmg he hch hx hMo hRg2 hg6
              have hl3 := HBS.out.length_le
              rw [List.length_append] at hl3
              simp only [List.length_cons, List.length_nil] at hl3
              go_wp2_with fail
              refine CJ.out.mono ?_
              rintro e w7 ⟨rfl, hb7⟩
              have hE7 : Ext w6 w7 := hb7
              have hrow7 := HRW6.out.kept (ext_grown hE7 none) (.inr (by simp [Value.ownBlock]))
              have hrow8 := hrow7.alloc (.cells #[.string x.2.path] 9)
              have hs1 : Cells (w7.alloc (.cells #[.string x.2.path] 9)).heap.size (w7.alloc (.cells #[.string x.2.path] 9)) (some ⟨w7.heap.size, 0, none⟩) [.string x.2.path] := fun j u hj => by
                refine ⟨_, 0, rfl, by simp, ?_⟩
                rw [Nat.zero_add, cell_of_row _ _ _ _ _ _ (heap_alloc_new w7 _)]
                simpa using hj
              have hsrc : Src Tryz.prog 1 56 (.slice (some ⟨w7.heap.size, 0, none⟩) 1 1) 1 [.string x.2.path] (w7.alloc (.cells #[.string x.2.path] 9)) := hs1.src Tryz.underlying56 1 1 (by simp) (fun u hu => by simp at hu; subst hu; rfl)
              obtain ⟨i0, hi, hz0, hz1', hz2⟩ := strInfo
              obtain ⟨hRg7, hlt7⟩ := HRG6.out.kept (ext_grown hE7 none) (fun _ _ => by simp) (by simp)
              obtain ⟨hRg8, hlt8⟩ := hRg7.kept (World.grownBy_alloc w7 (.cells #[.string x.2.path] 9) none) (fun _ _ => by simp) (by simp)
              have hE8 : Ext w (w7.alloc (.cells #[.string x.2.path] 9)) := (HE6.out.trans hE7).trans (Ext.alloc _ _)
              have hz7 := hE7.size
              have hzE := HE6.out.size
              have hW2z := hrow8.lt g2 rfl
              have HRG8 := Lib.hid hRg8
              have HE8 := Lib.hid hE8
              have HLT8 := Lib.hid (hlt8.trans hlt7)
              clear CJ hb7 hE7 hs1 hRg7 hlt7 hRg8 hlt8 hE8 hrow7 HRG6
              go_wp2_with (at_builtin; refine wpList_append_src _ rfl (.tmp 51) (.tmp 53) 56 56 rfl W2.heap.size 9 i0 (.string ⟨#[]⟩) 1 16 Tryz.underlying56 hi hz0 hz1' hz2 rfl (by decide) _ l2.length _ rfl hrow8 _ 1 _ rfl hsrc ?c1 ?c2 ?c3 ?_)
              case c1 => unfold maxLen; omega
              case c2 => omega
              case c3 => have := hW2z.2; simp at this ⊢; omega
              intro v' w9 hown9 hg9 _ ho9
              have hbrow : ∀ b, mb = some b → some b ≠ (Value.slice (some ⟨g2, 0, none⟩) l2.length cap2).ownBlock := fun b hb e => by
                have h1 := HT.out.bound b (HMS.out b hb)
                have h2 : b = g2 := by simpa [Value.ownBlock] using e
                omega
              obtain ⟨hRg9, hlt9⟩ := HRG8.out.kept hg9 hbrow (by simp [Value.ownBlock]; exact fun e => hgr2 e.symm)
              have hE9 : Ext w w9 := HE8.out.trans' ⟨hg9.os, hg9.tape, hg9.output, hg9.size, fun i hi => hg9.block i (Nat.lt_of_lt_of_le hi HE8.out.size) (fun e => by
                have h2 : i = g2 := by simpa [Value.ownBlock] using e
                omega)⟩
              have hown9' : w9.ownsRow W2.heap.size 9 1 v' (l2 ++ [x.2.path]).length ((l2 ++ [x.2.path]).map Value.string) := by
                simpa using hown9
              have hp9 : (l2 ++ [x.2.path])[k]? = some p := by rw [List.getElem?_append_left hk2']; exact HP2.out
              have hlt : rngLeft mb wo.heap.size w9 < rngLeft mb wo.heap.size wr := by
                rw [hlt9, HLT8.out]; exact HLT6.out
              have HREL := Lib.hid (show ∃ (l2 : List ByteArray) (left : Key → Bool), l2[k]? = some p ∧ Bfs M s l2 k left ∧ w9.ownsRow W2.heap.size 9 1 v' l2.length (l2.map Value.string) ∧ RngAt w9 wo.heap.size mb (kidsOf M p) left ∧ Ext w w9 from ⟨_, _, hp9, HBS.out, hown9', hRg9, hE9⟩)
              have HLT := Lib.hid hlt
              clear hRg9 hlt9 hE9 hown9' hp9 hlt hown9 hg9 ho9 hsrc hrow8 hbrow hen
              go_wp2
              go_roundw
              case rel => exact HREL.out
              case measure => exact HLT.out
      · obtain rfl : k = l.length := by omega
        rcases hrow.2 with ⟨_, h0⟩ | ⟨g, cap, cur, rfl, hbase, hb, h1, h2, h3, h4⟩
        · have := hB.head
          rw [List.eq_nil_of_length_eq_zero h0] at this
          simp at this
        have h4' : cur.toList.take (l.map fun p => p.data.toList).length = (l.map fun p => p.data.toList).map encStr := by
          rw [List.length_map, List.map_map, ← Nat.mul_one l.length, h4]
          refine List.map_congr_left fun p _ => ?_
          simp [encStr]
        have hsrt := hB.sorted HM.out HC.out
        have CS : Calls Tryz.prog 189 #[.slice (some ⟨g, 0, none⟩) l.length cap] wo fun e w' => e = .returned (.tuple #[]) ∧ ∃ n os, w' = grow (putRow encStr (Sort.ahead wo n) g 0 ((l.map fun p => p.data.toList).mergeSort fun x y => decide (x ≤ y)).toArray) os := by
          have := AnyM.slices_Sort_string Tryz.sortS g 0 cap (l.map fun p => p.data.toList) wo (holds_of_block hb h4') (Array.getElem?_eq_some_iff.1 hb).1 (by rw [List.length_map]; omega)
          rw [List.length_map] at this
          exact this
        rw [hsrt] at CS
        have hul : (undK M s).length = (l.map fun p => p.data.toList).length := by rw [← hsrt, List.length_mergeSort]
        have hlm : (l.map fun p => p.data.toList).length = l.length := List.length_map _
        have hfin : ∀ n os, SortedOut (UndL M s) w (.returned (.slice (some ⟨g, 0, none⟩) l.length cap)) (grow (putRow encStr (Sort.ahead wo n) g 0 (undK M s).toArray) os) := fun n os => by
          rw [HU.out]
          have h5 := ownsRow_sorted (n := n) (os := os) hul hbase hb (by rw [hlm]; exact h1) h2 h3
          rw [hlm, ← hlm, ← hul] at h5
          have hpos : 0 < l.length := List.length_pos_of_mem hB.head
          have hE9 := grownBy_sorted (n := n) (os := os) (w := wo) (g := g) (undK M s).toArray
          refine ⟨_, by rw [← hlm, ← hul], ownsRow_base_a h5 (by have := HEW.out.size; omega), ⟨fun e => (by cases e), fun e => (by rw [e] at hul; rw [hlm] at hul; simp at hul; omega)⟩, hE.trans' ⟨hE9.os, hE9.tape, hE9.output, hE9.size, fun i hi => hE9.block i (Nat.lt_of_lt_of_le hi hE.size) (fun e => by
            have := Option.some.inj e
            have := HEW.out.size
            omega)⟩⟩
        have CS := Lib.hid CS
        have HFIN := Lib.hid hfin
        clear hfin hul hsrt h4' h4 hb hB hE hrow
        go_wp2_with fail
        refine CS.out.mono ?_
        rintro e w8 ⟨rfl, n, os, rfl⟩
        clear CS
        go_wp2
        go_ret
        exact HFIN.out n os
end Go.Proofs.YthinpbdbhijbgaaGreatDoor
namespace Go.Proofs.YthinpbdbhijbgaaGreatDoor
open Go.RowKit
set_option maxHeartbeats 1000000

theorem sum_le_len {α : Type} (l : List α) (a : α → Nat) (B : Nat) (h : ∀ x ∈ l, a x ≤ B) : (l.map a).sum ≤ l.length * B := by
  induction l with
  | nil => simp
  | cons x l ih =>
    have h1 := h x (List.mem_cons_self ..)
    have h2 := ih fun y hy => h y (List.mem_cons_of_mem _ hy)
    simp only [List.map_cons, List.sum_cons, List.length_cons, Nat.add_mul]; omega
theorem undK_length_le (M : List (Key × Nd)) (s : ByteArray) : (undK M s).length ≤ M.length := by
  unfold undK; rw [List.length_map]; exact List.length_filter_le _ _

/-- The bytes of the nodes at these paths. -/
def bytesK (M : List (Key × Nd)) (ks : List Key) : Nat := (ks.map fun k => ((mget M k).getD zeroN).data.length).sum
theorem bytesK_succ (M : List (Key × Nd)) (ks : List Key) (k : Nat) (hk : k < ks.length) : bytesK M (ks.take (k + 1)) = bytesK M (ks.take k) + ((mget M ks[k]).getD zeroN).data.length := by
  unfold bytesK
  rw [List.take_succ_eq_append_getElem hk, List.map_append, List.sum_append]
  simp
theorem data_le {M : List (Key × Nd)} (hM : MOk M) (k : Key) : ((mget M k).getD zeroN).data.length ≤ 1048575 := by
  cases hg : mget M k with
  | none => simp [zeroN]
  | some n => exact (right_fit (hM.at hg).2).2.1
theorem bytesK_le {M : List (Key × Nd)} (hM : MOk M) (ks : List Key) : bytesK M ks ≤ ks.length * 1048575 :=
  sum_le_len ks _ _ fun k _ => data_le hM k

end Go.Proofs.YthinpbdbhijbgaaGreatDoor
namespace Go.Proofs.YthinpbdbhijbgaaGreatDoor
open Go.RowKit Go.Sort
set_option maxHeartbeats 2000000
set_option maxRecDepth 100000

theorem wpList_field {P : Program} {ops : Array Oper} {rest : List Oper} {o : Oper} {a : Act} {Q : Exit → Act → World → Prop} {w : World} (hg : o.guard = none) (ty : TypeId) (x : Operand) (i : Nat) (ho : o.op = .field ty x i) (u : Value) (hx : a.eval x = u) (v : Value)
    (hr : (Instr.field ty u i).run P w = .ok v w) (hK : wpList P ops Q rest (a.put o.dst v) w) : wpList P ops Q (o :: rest) a w :=
  wpList_plain hg fun K hK' => by
    subst hx
    unfold Oper.wp
    simp only [execOp, ho, Sem.run_bind, Sem.run_pure, Result.andThen_ok, hr]
    exact hK' _ _ hK
theorem field_data {a b c d e f g h i j k l m n o p q : Value} {w : World} : (Instr.field 44 (.agg #[a, b, c, d, e, f, g, h, i, j, k, l, m, n, o, p, q]) 1).run Tryz.prog w = .ok b w := by
  kernel_rfl

def WeighOut (M : List (Key × Nd)) (s : ByteArray) (w : World) (e : Ending) (w' : World) : Prop :=
  e = .returned (if (mget M s.data.toList).isSome = true then .tuple #[.int .i64 (undK M s).length, .int .i64 (bytesK M (undK M s)), .int .i64 0] else .tuple #[.int .i64 0, .int .i64 0, .int .i64 70]) ∧ Ext w w'

theorem UndL_none {M : List (Key × Nd)} {s : ByteArray} (h : mget M s.data.toList = none) : UndL M s = [] := by unfold UndL; rw [h]; rfl
theorem UndL_some {M : List (Key × Nd)} {s : ByteArray} {y : Nd} (h : mget M s.data.toList = some y) : UndL M s = undK M s := by unfold UndL; rw [h]; rfl
theorem und_self_mem {M : List (Key × Nd)} (hM : MOk M) {s : ByteArray} {y : Nd} (h : mget M s.data.toList = some y) : 0 < (undK M s).length := by
  have hm := mget_some_mem h
  have hp : y.path = s := (ba_ext (hM.at h).1).symm
  have : s.data.toList ∈ undK M s := by
    unfold undK
    exact List.mem_map.2 ⟨_, List.mem_filter.2 ⟨hm, by show und y.path s = true; rw [hp]; exact und_self s⟩, rfl⟩
  exact List.length_pos_of_mem this

theorem weigh_any (S : Nat → Prop) (w : World) (bt : Nat) (M : List (Key × Nd)) (N : Nat) (hT : TreeAt S w bt M N) (hc : Clo M) (s : ByteArray) (hs : s.size ≤ maxLen) (hN : M.length * 168 ≤ 140737488355328) :
    Calls Tryz.prog 85 #[.pointer (some ⟨bt, 0, none⟩), .string s] w (WeighOut M s w) := by
  have C1 := Lib.hid (under_any S w bt M N hT hc s hs (by omega))
  have HT := Lib.hid hT
  have hM := hT.ok
  clear hT
  go_enter Tryz.func85, Tryz.ntmps85
  go_wp2_with fail
  refine C1.out.mono ?_
  rintro e w1 ⟨v, rfl, hrow, hnil, hE1⟩
  clear C1
  obtain ⟨sa, sc, rfl, hcs⟩ := ownsRow_cells hrow
  cases hg : mget M s.data.toList with
  | none =>
    have hfin : WeighOut M s w (.returned (.tuple #[.int .i64 0, .int .i64 0, .int .i64 70])) w1 := ⟨by rw [hg]; rfl, hE1⟩
    have HFIN := Lib.hid hfin
    have e0 : (UndL M s).length = 0 := by rw [UndL_none hg]; rfl
    rw [e0] at *
    clear hfin hg hrow hnil hE1 hcs
    go_wp2
    go_ret3
    exact HFIN.out
  | some y =>
    have hU := UndL_some hg
    have hpos := und_self_mem hM hg
    rw [hU] at hcs
    rw [hU]
    generalize hks : undK M s = ks at *
    have hkl : ks.length ≤ M.length := by rw [← hks]; exact undK_length_le M s
    have hkey : ∀ k ∈ ks, k.length ≤ maxLen := fun k hk => by
      rw [← hks] at hk
      unfold undK at hk
      obtain ⟨x, hx, rfl⟩ := List.mem_map.1 hk
      have hxM := (List.mem_filter.1 hx).1
      have h1 := hM.key x hxM
      have h2 := (vpath_facts (right_vpath (hM.right x hxM))).2.1
      rw [h1]
      unfold keyN maxLen
      rw [size_list]; omega
    have hfin : WeighOut M s w (.returned (.tuple #[.int .i64 ks.length, .int .i64 (bytesK M ks), .int .i64 0])) w1 := ⟨by rw [hg, hks]; rfl, hE1⟩
    have HFIN := Lib.hid hfin
    have HCS := Lib.hid hcs
    have HKEY := Lib.hid hkey
    have hT1 := HT.out.ext hE1
    have HT1 := Lib.hid hT1
    have hlp : ¬ ks.length = 0 := by omega
    have hlb : ((ks.length : Int) == 0) = false := by simp; exact fun e => hlp (by rw [e]; rfl)
    have hl64 : ks.length ≤ 9223372036854775807 := by omega
    clear hfin hg hrow hnil hE1 hcs hkey hT1 hks HT hU hpos
    go_wp2
    go_loopw [8, 19] (fun sm i wr => ∃ k : Nat, k ≤ ks.length ∧ i = .int .i64 k ∧ sm = .int .i64 (bytesK M (ks.take k)) ∧ wr = w1) (fun _ i _ => ks.length - (intOf i).toNat)
    case atStart => exact ⟨0, Nat.zero_le _, rfl, rfl, rfl⟩
    case round =>
      obtain ⟨k, hk, rfl, rfl, rfl⟩ := hrel
      by_cases hlt : k < ks.length
      · obtain ⟨b, off, rfl, hb, hc⟩ := HCS.out k (encStr ks[k]) (by rw [List.getElem?_map, List.getElem?_eq_getElem hlt]; rfl)
        have hkz : (⟨ks[k].toArray⟩ : ByteArray).size ≤ maxLen := by
          have := HKEY.out ks[k] (List.getElem_mem hlt)
          rw [← size_list]; simpa using this
        obtain ⟨bn, bk, K, hd, hNd, hKd⟩ := HT1.out
        have hx := TreeAt.box hd
        obtain ⟨vv, hvv, _, hq⟩ := hNd.look' ⟨ks[k].toArray⟩ hkz
        rw [key_back] at hvv
        have hsucc := bytesK_succ M ks k hlt
        have hle1 := bytesK_le hM (ks.take k)
        have hle2 := data_le hM ks[k]
        have hln : (ks.take k).length ≤ ks.length := by simp; omega
        obtain ⟨ea, ec, fa, fc, rfl, _⟩ := hvv
        generalize (mget M ks[k]).getD zeroN = n at *
        have HSC := Lib.hid hsucc
        have hb1 : (0 : Int) ≤ (bytesK M (ks.take k) : Int) + (n.data.length : Int) := by omega
        have hb2 : (bytesK M (ks.take k) : Int) + (n.data.length : Int) < 9223372036854775808 := by omega
        unfold Box treeC at hx
        unfold ndC at hq
        clear hd hNd hKd hsucc
        go_wp2_with (refine wpList_field rfl 44 (.tmp 29) 1 rfl _ rfl (.slice ea n.data.length ec) field_data ?_)
        go_roundw
        case rel => exact ⟨k + 1, by omega, by go_num, by rw [HSC.out]; push_cast; go_num, by first | rfl | trivial⟩
        case measure => simp [intOf]; omega
      · obtain rfl : k = ks.length := by omega
        rw [List.take_length]
        go_wp2
        go_ret3
        exact HFIN.out
end Go.Proofs.YthinpbdbhijbgaaGreatDoor
namespace Go.Proofs.YthinpbdbhijbgaaGreatDoor
open Go.RowKit

/-- The paths above one, from the nearest on. -/
def upF : Nat → ByteArray → List ByteArray
  | 0, _ => []
  | f + 1, p => if p.size = 1 then [] else parentB p :: upF f (parentB p)
def upL (p : ByteArray) : List ByteArray := upF p.size p
theorem upF_fuel : ∀ (f g : Nat) (p : ByteArray), vpath p = true → p.size ≤ f → p.size ≤ g → upF f p = upF g p
  | 0, _, p, hv, hf, _ => by have := (vpath_facts hv).1; omega
  | _ + 1, 0, p, hv, hf, hg => by have := (vpath_facts hv).1; omega
  | f + 1, g + 1, p, hv, hf, hg => by
    simp only [upF]
    by_cases h1 : p.size = 1
    · rw [if_pos h1, if_pos h1]
    · have hs := (path_split hv h1).2.2.1
      rw [if_neg h1, if_neg h1, upF_fuel f g (parentB p) (vpath_parent hv h1) (by omega) (by omega)]
theorem upL_one {p : ByteArray} (h1 : p.size = 1) : upL p = [] := by
  unfold upL; rw [h1]; simp [upF, h1]
theorem upL_step {p : ByteArray} (hv : vpath p = true) (h1 : p.size ≠ 1) : upL p = parentB p :: upL (parentB p) := by
  have hp := (vpath_facts hv).1
  have hs := (path_split hv h1).2.2.1
  obtain ⟨g, hg⟩ : ∃ g, p.size = g + 1 := ⟨p.size - 1, by omega⟩
  have e1 := upF_fuel g (parentB p).size (parentB p) (vpath_parent hv h1) (by omega) (Nat.le_refl _)
  unfold upL
  rw [hg]
  simp only [upF]
  rw [if_neg h1, e1]
theorem upL_length : ∀ (n : Nat) (p : ByteArray), p.size ≤ n → vpath p = true → (upL p).length ≤ p.size - 1
  | 0, p, hn, hv => by have := (vpath_facts hv).1; omega
  | n + 1, p, hn, hv => by
    by_cases h1 : p.size = 1
    · rw [upL_one h1]; simp
    · have hs := (path_split hv h1).2.2.1
      have hp := vpath_parent hv h1
      have := upL_length n (parentB p) (by omega) hp
      have h2 := (vpath_facts hp).1
      rw [upL_step hv h1, List.length_cons]
      omega
theorem upL_mem : ∀ (n : Nat) (p : ByteArray), p.size ≤ n → vpath p = true → ∀ q, q = p ∨ q ∈ upL p ↔ und p q = true
  | 0, p, hn, hv, q => by have := (vpath_facts hv).1; omega
  | n + 1, p, hn, hv, q => by
    by_cases h1 : p.size = 1
    · rw [upL_one h1, undV_one h1]
      simp only [List.not_mem_nil, or_false, beq_iff_eq]
      exact ⟨fun h => by rw [h], fun h => (ByteArray.ext h).symm⟩
    · have hs := (path_split hv h1).2.2.1
      rw [upL_step hv h1, undV_up hv h1, List.mem_cons, Bool.or_eq_true, ← upL_mem n (parentB p) (by omega) (vpath_parent hv h1) q, beq_iff_eq]
      constructor
      · rintro (h | h | h)
        · exact .inl (by rw [h])
        · exact .inr (.inl h)
        · exact .inr (.inr h)
      · rintro (h | h | h)
        · exact .inl (ByteArray.ext h).symm
        · exact .inr (.inl h)
        · exact .inr (.inr h)

/-- The path and those above it, from the root on. -/
def lineL (p : ByteArray) : List ByteArray := (upL p).reverse ++ [p]
/-- The node of a path, if it bears a quota. -/
def quoN (M : List (Key × Nd)) (q : ByteArray) : List Nd := match mget M q.data.toList with | some n => if n.has = true then [n] else [] | none => []
/-- The quotas over a path. -/
def overL (M : List (Key × Nd)) (p : ByteArray) : List Nd := if vpath p = true then (lineL p).flatMap (quoN M) else []

/-- Is a bound passed? -/
def passB (bound used more : Int) : Bool := decide (more > 0) && bound != -1 && (decide (used > bound) || decide (more > wrap64 (bound - used)))
def overB (M : List (Key × Nd)) (dn db : Int) (n : Nd) : Bool := passB n.count (undK M n.path).length dn || passB n.bytes (bytesK M (undK M n.path)) db
end Go.Proofs.YthinpbdbhijbgaaGreatDoor
namespace Go.Proofs.YthinpbdbhijbgaaGreatDoor
open Go.RowKit
set_option maxHeartbeats 2000000
set_option maxRecDepth 100000

end Go.Proofs.YthinpbdbhijbgaaGreatDoor
namespace Go.Proofs.YthinpbdbhijbgaaGreatDoor
open Go.RowKit
set_option maxHeartbeats 2000000
set_option maxRecDepth 100000

/-- The document's tree: a list of nodes. -/
def RTree (S : Nat → Prop) (w : World) (b : Nat) (L : List Nd) : Prop :=
  ∃ (a : Option Addr) (cap : Nat) (vs : List (Array Value)), w.heap[b]? = some (.cells #[.slice a L.length cap] 53 (0, 0)) ∧ L.length ≤ cap ∧ cap ≤ maxLen ∧ (∀ k, S k → k < w.heap.size ∧ k ≠ b) ∧ RowsOf S w a vs L ∧ PlainA a cap

theorem RTree.keep {S S' : Nat → Prop} {w w' : World} {b : Nat} {L : List Nd} (h : RTree S w b L) (hS : ∀ k, S k → S' k) (hb : w'.heap[b]? = w.heap[b]?) (hw : ∀ k, S k → w'.heap[k]? = w.heap[k]?) (hS' : ∀ k, S' k → k < w'.heap.size ∧ k ≠ b) : RTree S' w' b L := by
  obtain ⟨a, cap, vs, h1, h2, h3, h4, h5, h6⟩ := h
  exact ⟨a, cap, vs, hb.trans h1, h2, h3, hS', h5.imp hS hw, h6⟩
theorem RTree.lt {S : Nat → Prop} {w : World} {b : Nat} {L : List Nd} (h : RTree S w b L) : b < w.heap.size := by
  obtain ⟨a, cap, vs, h1, _⟩ := h
  exact (Array.getElem?_eq_some_iff.1 h1).1
theorem RTree.bound {S : Nat → Prop} {w : World} {b : Nat} {L : List Nd} (h : RTree S w b L) : ∀ k, S k → k < w.heap.size ∧ k ≠ b := by
  obtain ⟨a, cap, vs, _, _, _, h4, _, _⟩ := h
  exact h4
theorem RTree.ext {S : Nat → Prop} {w w' : World} {b : Nat} {L : List Nd} (h : RTree S w b L) (he : Ext w w') : RTree S w' b L :=
  h.keep (fun _ h => h) (he.block b h.lt) (fun k hk => he.block k (h.bound k hk).1) fun k hk => ⟨Nat.lt_of_lt_of_le (h.bound k hk).1 he.size, (h.bound k hk).2⟩

end Go.Proofs.YthinpbdbhijbgaaGreatDoor
namespace Go.Proofs.YthinpbdbhijbgaaGreatDoor
open Go.RowKit
set_option maxHeartbeats 2000000
set_option maxRecDepth 100000

/-- The document's tree, its rows in whatever blocks but its own. -/
def RT (w : World) (b : Nat) (L : List Nd) : Prop := RTree (fun k => k < w.heap.size ∧ k ≠ b) w b L
theorem RTree.rt {S : Nat → Prop} {w : World} {b : Nat} {L : List Nd} (h : RTree S w b L) : RT w b L := h.keep h.bound rfl (fun _ _ => rfl) fun _ h => h
theorem RT.ext {w w' : World} {b : Nat} {L : List Nd} (h : RT w b L) (he : Ext w w') : RT w' b L := (RTree.ext h he).rt
theorem RT.lt {w : World} {b : Nat} {L : List Nd} (h : RT w b L) : b < w.heap.size := RTree.lt h

end Go.Proofs.YthinpbdbhijbgaaGreatDoor
namespace Go.Proofs.YthinpbdbhijbgaaGreatDoor
open Go.RowKit Go.Sort
set_option maxHeartbeats 2000000
set_option maxRecDepth 100000

theorem wpList_append_s {ops : Array Oper} {rest : List Oper} {o : Oper} {a : Act} {Q : Exit → Act → World → Prop} {W5 : World} (hgd : o.guard = none) (s x : Operand)
    (ho : o.op = .call { callee := .builtin .append, args := #[s, x], argTypes := #[56, 56] })
    (base n : Nat) (xs : List Value) (ov : Value) (hown : W5.ownsRow base 9 1 ov n xs) (hb : base ≤ W5.heap.size) (t : ByteArray) (hl : (n + 1) * 16 ≤ 140737488355328)
    (hs : a.eval s = ov) (hx : a.eval x = .slice (some ⟨W5.heap.size, 0, none⟩) 1 1)
    (hK : ∀ v' W6, W6.ownsRow base 9 1 v' (n + 1) (xs ++ [.string t]) → (∀ w0, Ext w0 W5 → w0.heap.size ≤ base → Ext w0 W6) → wpList Tryz.prog ops Q rest (a.put o.dst v') W6) : wpList Tryz.prog ops Q (o :: rest) a (W5.alloc (.cells #[.string t] 9)) := by
  have hrow8 := hown.alloc (.cells #[.string t] 9)
  have hs1 : Cells (W5.alloc (.cells #[.string t] 9)).heap.size (W5.alloc (.cells #[.string t] 9)) (some ⟨W5.heap.size, 0, none⟩) [.string t] := fun j u hj => by
    refine ⟨_, 0, rfl, by simp, ?_⟩
    rw [Nat.zero_add, cell_of_row _ _ _ _ _ _ (heap_alloc_new W5 _)]
    simpa using hj
  have hsrc : Src Tryz.prog 1 56 (.slice (some ⟨W5.heap.size, 0, none⟩) 1 1) 1 [.string t] (W5.alloc (.cells #[.string t] 9)) := hs1.src Tryz.underlying56 1 1 (by simp) (fun u hu => by simp at hu; subst hu; rfl)
  obtain ⟨i0, hi, hz0, hz1', hz2'⟩ := strInfo
  refine wpList_append_src _ hgd s x 56 56 ho base 9 i0 (.string ⟨#[]⟩) 1 16 Tryz.underlying56 hi hz0 hz1' hz2' rfl (by decide) ov n xs hs hrow8 _ 1 _ hx hsrc (by unfold maxLen; omega) hl (by simp; omega) ?_
  intro v' w9 hown9 hg9 _ _
  refine hK v' w9 hown9 fun w0 hE0 hb0 => ?_
  have hE8 : Ext w0 (W5.alloc (.cells #[.string t] 9)) := hE0.trans (Ext.alloc _ _)
  exact hE8.trans' ⟨hg9.os, hg9.tape, hg9.output, hg9.size, fun i hi => hg9.block i (Nat.lt_of_lt_of_le hi hE8.size) (fun e => by
    have := (hown.lt i e.symm).1
    omega)⟩
end Go.Proofs.YthinpbdbhijbgaaGreatDoor
namespace Go.Proofs.YthinpbdbhijbgaaGreatDoor
open Go.RowKit Go.Sort
set_option maxHeartbeats 4000000
set_option maxRecDepth 100000

def AboveOut (s : ByteArray) (w : World) (e : Ending) (w' : World) : Prop :=
  ∃ v, e = .returned (.tuple #[v, .int .i64 (if vpath s = true then 0 else 30)]) ∧ (if vpath s = true then w'.ownsRow w.heap.size 9 1 v (upL s).length ((upL s).reverse.map .string) else v = .slice none 0 0) ∧ Ext w w'

theorem encStr_data (p : ByteArray) : encStr p.data.toList = .string p := by simp [encStr]

theorem above_any (s : ByteArray) (w : World) (hs : s.size ≤ 9223372036854775800) : Calls Tryz.prog 181 #[.string s] w (AboveOut s w) := by
  have C1 := valid_any s w (by omega)
  cases hv : vpath s with
  | false =>
    rw [hv] at C1
    have C1 := Lib.hid C1
    have hfin : ∀ w', Ext w w' → AboveOut s w (.returned (.tuple #[.slice none 0 0, .int .i64 30])) w' := fun w' hE => ⟨_, by rw [hv]; rfl, by rw [hv]; rfl, hE⟩
    have HFIN := Lib.hid hfin
    clear hv hfin
    go_enter Tryz.func181, Tryz.ntmps181
    go_wp2_with fail
    refine C1.out.mono ?_
    rintro e w1 ⟨rfl, hb1⟩
    clear C1
    go_wp2
    go_ret2
    exact HFIN.out _ hb1
  | true =>
    rw [hv] at C1
    have C1 := Lib.hid C1
    have hf := vpath_facts hv
    have hlen := upL_length s.size s (Nat.le_refl _) hv
    have HV := Lib.hid hv
    clear hv
    go_enter Tryz.func181, Tryz.ntmps181
    go_wp2_with fail
    refine C1.out.mono ?_
    rintro e w1 ⟨rfl, hb1⟩
    have HE1 : Hid (Ext w w1) := hb1
    clear C1 hb1
    go_wp2
    go_loopw [0, 4] (fun pv lv wr => ∃ (q : ByteArray) (L : List ByteArray), pv = .string q ∧ Hid (vpath q = true) ∧ q.size ≤ 4096 ∧ Hid (upL s = L ++ upL q) ∧ L.length ≤ 4096 ∧ wr.ownsRow w.heap.size 9 1 lv L.length (L.map .string) ∧ Ext w wr) (fun pv _ _ => match pv with | .string q => q.size | _ => 0)
    case atStart => exact ⟨s, [], rfl, HV.out, hf.2.1, rfl, Nat.zero_le _, World.ownsRow_nil _ _ _ _, HE1.out⟩
    case round =>
      obtain ⟨q, L, rfl, HQ, hq, HU, hL, hown, hE⟩ := hrel
      have hroot := root_iff HQ.out
      have hzr := hE.size
      by_cases h1 : q.size = 1
      · have r2 : q.toList = [47] := by rw [ByteArray.toList_eq]; exact hroot.1 h1
        have r1 : (q.toList == [47]) = true := by simpa using r2
        have hu : upL s = L := by have := HU.out; rw [upL_one h1, List.append_nil] at this; exact this
        have hfin : ∀ v w', w'.ownsRow w.heap.size 9 1 v L.length (L.reverse.map .string) → Ext w w' → AboveOut s w (.returned (.tuple #[v, .int .i64 0])) w' := fun v w' h1 h2 => ⟨_, by rw [HV.out]; rfl, by rw [HV.out, hu]; exact h1, h2⟩
        have HFIN := Lib.hid hfin
        rcases hown.2 with ⟨e0, h0⟩ | ⟨g, cap, cur, e0, hbase, hb, h2, h3, h4, h5⟩
        · subst e0
          have hL0 : L = [] := List.eq_nil_of_length_eq_zero h0
          subst hL0
          have CR := Lib.hid (Any.slices_Reverse_string_empty Tryz.revS none 0 wr)
          have HX := Lib.hid (HFIN.out (.slice none 0 0) wr (World.ownsRow_nil _ _ _ _) hE)
          clear hfin hu hroot hown hE HU
          go_wp2_with fail
          refine CR.out.mono ?_
          rintro e w2 ⟨rfl, rfl⟩
          clear CR
          go_wp2
          go_ret2
          exact HX.out
        · subst e0
          have h5' : cur.toList.take (L.map fun p => p.data.toList).length = (L.map fun p => p.data.toList).map encStr := by
            rw [List.length_map, List.map_map, ← Nat.mul_one L.length, h5]
            exact List.map_congr_left fun p _ => (encStr_data p).symm
          have CR : Calls Tryz.prog 226 #[.slice (some ⟨g, 0, none⟩) L.length cap] wr fun e w' => e = .returned (.tuple #[]) ∧ ∃ n, w' = putRow encStr (Sort.ahead wr n) g 0 (L.map fun p => p.data.toList).reverse.toArray := by
            have := Any.slices_Reverse_string Tryz.revS g 0 cap (L.map fun p => p.data.toList) wr (holds_of_block hb h5') (by rw [List.length_map]; omega)
            rw [List.length_map] at this
            exact this
          have hX : ∀ n, AboveOut s w (.returned (.tuple #[.slice (some ⟨g, 0, none⟩) L.length cap, .int .i64 0])) (putRow encStr (Sort.ahead wr n) g 0 (L.map fun p => p.data.toList).reverse.toArray) := fun n => by
            have e9 : putRow encStr (Sort.ahead wr n) g 0 (L.map fun p => p.data.toList).reverse.toArray = grow (putRow encStr (Sort.ahead wr n) g 0 (L.map fun p => p.data.toList).reverse.toArray) #[] := world_ext (by simp [grow]) rfl rfl rfl rfl
            have hrl : (L.map fun p => p.data.toList).reverse.length = (L.map fun p => p.data.toList).length := List.length_reverse
            have h6 := ownsRow_sorted (n := n) (os := #[]) hrl hbase hb (by rw [List.length_map]; exact h2) h3 h4
            rw [← e9] at h6
            have h7 := grownBy_sorted (n := n) (os := #[]) (w := wr) (g := g) (L.map fun p => p.data.toList).reverse.toArray
            rw [← e9] at h7
            refine HFIN.out _ _ ?_ (hE.trans' ⟨h7.os, h7.tape, h7.output, h7.size, fun i hi => h7.block i (Nat.lt_of_lt_of_le hi hE.size) (fun e => by
              have := Option.some.inj e
              omega)⟩)
            have h8 := h6
            have e1 : (L.map fun p => p.data.toList).reverse.map encStr = L.reverse.map Value.string := by
              rw [← List.map_reverse, List.map_map]
              exact List.map_congr_left fun p _ => encStr_data p
            rw [e1, List.length_map] at h8
            exact h8
          have CR := Lib.hid CR
          have HX := Lib.hid hX
          clear hfin hu hroot hown hE HU hX h5' h5 hb
          go_wp2_with fail
          refine CR.out.mono ?_
          rintro e w2 ⟨rfl, n, rfl⟩
          clear CR
          go_wp2
          go_ret2
          exact HX.out n
      · have r2 : ¬ q.toList = [47] := by rw [ByteArray.toList_eq]; exact fun h => h1 (hroot.2 h)
        have r1 : (q.toList == [47]) = false := by simpa using r2
        have hv2 := vpath_parent HQ.out h1
        have hsz := (path_split HQ.out h1).2.2.1
        have hsz2 := (vpath_facts hv2).2.1
        have hu2 : upL s = (L ++ [parentB q]) ++ upL (parentB q) := by rw [HU.out, upL_step HQ.out h1]; simp
        have hL2 : L.length + 1 ≤ 4096 := by
          have := congrArg List.length hu2
          simp only [List.length_append, List.length_cons, List.length_nil] at this
          omega
        have CP := parent_any q wr (by omega)
        rw [show parV q = .tuple #[.string (parentB q), .int .i64 0] by unfold parV; rw [if_pos ⟨HQ.out, h1⟩]] at CP
        have CP := Lib.hid CP
        have HV2 := Lib.hid hv2
        have HU2 := Lib.hid hu2
        have HE := Lib.hid hE
        have HO := Lib.hid hown
        clear hroot hE hv2 HQ HU hu2 hown
        go_wp2_with fail
        refine CP.out.mono ?_
        rintro e w3 ⟨rfl, hE3⟩
        have hE3 : Ext wr w3 := hE3
        have hz3 := hE3.size
        have hown3 := HO.out.kept (grown_of_ext hE3 none) (Classical.em _)
        have HE3 := Lib.hid (HE.out.trans hE3)
        clear CP hE3 HO
        go_wp2_with (at_builtin; refine wpList_append_s rfl (.tmp 15) (.tmp 17) rfl w.heap.size L.length _ _ hown3 (by omega) (parentB q) (by omega) rfl rfl ?_)
        intro v' W6 hO6 hE6
        have HO6 := Lib.hid hO6
        have HE6 := Lib.hid (hE6 w HE3.out (Nat.le_refl _))
        clear hO6 hE6 hown3
        go_wp2
        go_roundw
        case rel => exact ⟨parentB q, L ++ [parentB q], rfl, HV2.out, hsz2, HU2.out, by simpa using hL2, by simpa using HO6.out, HE6.out⟩
        case measure => first | exact hsz | simpa using hsz
end Go.Proofs.YthinpbdbhijbgaaGreatDoor
namespace Go.Proofs.YthinpbdbhijbgaaGreatDoor
open Go.RowKit Go.Sort
set_option maxHeartbeats 2000000
set_option maxRecDepth 100000

/-- A node put into a new box. -/
theorem box_node {S : Nat → Prop} {w1 : World} {v : Value} {n : Nd} (hv : NdS S w1 v n) (hS : ∀ b, S b → b < w1.heap.size) :
    ∃ da dc aa ac W2, v = .agg (ndC n (.slice da n.data.length dc) (.slice aa n.acl.length ac)) ∧ (w1.alloc (.cells zeroNd 44)).setRow w1.heap.size (ndC n (.slice da n.data.length dc) (.slice aa n.acl.length ac)) = W2 ∧
      W2.heap[w1.heap.size]? = some (.cells (ndC n (.slice da n.data.length dc) (.slice aa n.acl.length ac)) 44 (0, 0)) ∧ Ext w1 W2 ∧ Cells W2.heap.size W2 da (n.data.map u8v) ∧ Cells W2.heap.size W2 aa (acCs n.acl) := by
  obtain ⟨da, dc, aa, ac, rfl, hD, hA⟩ := hv
  have hE : Ext w1 (w1.alloc (.cells (ndC n (.slice da n.data.length dc) (.slice aa n.acl.length ac)) 44)) := Ext.alloc _ _
  exact ⟨da, dc, aa, ac, _, rfl, setRow_alloc w1 zeroNd _ 44, heap_alloc_new w1 _, hE, (hD.cells hS).ext hE, (hA.cells hS).ext hE⟩
theorem OwnN.base {b b' : Nat} {L : List Nd} {v : Value} {w : World} (h : OwnN b L v w) (hb : b' ≤ b) : OwnN b' L v w := by
  obtain ⟨vs, h1, h2⟩ := h
  exact ⟨vs, ⟨h1.1, h1.2.imp id fun ⟨g, cap, cur, q1, q2, q3⟩ => ⟨g, cap, cur, q1, Nat.le_trans hb q2, q3⟩⟩, h2.imp (fun k hk => ⟨Nat.le_trans hb hk.1, hk.2⟩) fun _ _ _ _ h => h⟩
end Go.Proofs.YthinpbdbhijbgaaGreatDoor
namespace Go.Proofs.YthinpbdbhijbgaaGreatDoor
open Go.RowKit Go.Sort
set_option maxHeartbeats 2000000
set_option maxRecDepth 100000

theorem wpList_append_nd {ops : Array Oper} {rest : List Oper} {o : Oper} {a : Act} {Q : Exit → Act → World → Prop} {W4 W5 : World} (hgd : o.guard = none) (s x : Operand)
    (ho : o.op = .call { callee := .builtin .append, args := #[s, x], argTypes := #[50, 50] })
    (base : Nat) (L : List Nd) (ov : Value) (hO : OwnN base L ov W4) (hE : Ext W4 W5) (hb : base ≤ W4.heap.size) (n : Nd) (cs : Array Value) (hN : NdS (fun k => W4.heap.size ≤ k ∧ k < W5.heap.size) W5 (.agg cs) n) (hl : (L.length + 1) * 168 ≤ 140737488355328)
    (hs : a.eval s = ov) (hx : a.eval x = .slice (some ⟨W5.heap.size, 0, none⟩) 1 1)
    (hK : ∀ v' W6, OwnN base (L ++ [n]) v' W6 → (∀ w0, Ext w0 W5 → w0.heap.size ≤ base → Ext w0 W6) → wpList Tryz.prog ops Q rest (a.put o.dst v') W6) : wpList Tryz.prog ops Q (o :: rest) a (W5.alloc (.cells cs 44)) := by
  obtain ⟨qa, qc, ra, rc, hcs, hQ1, hQ2⟩ := hN
  cases hcs
  obtain ⟨ws, hown4, heach4⟩ := hO
  have hz5 := hE.size
  have hlt4 : ∀ g, ov.ownBlock = some g → base ≤ g ∧ g < W4.heap.size := fun g hg => hown4.lt g hg
  have hown5 := hown4.kept (grown_of_ext hE none) (Classical.em _)
  have heach5 : EachN (NewN base ov W5) W5 ws L := heach4.imp (fun b hb => ⟨hb.1, Nat.lt_of_lt_of_le hb.2.1 hE.size, hb.2.2⟩) fun b o u _ hu => cell_ext hE b o u hu
  have hnew5 : NdS (NewN base ov W5) W5 (.agg (ndC n (.slice qa n.data.length qc) (.slice ra n.acl.length rc))) n := NdS.imp ⟨qa, qc, ra, rc, rfl, hQ1, hQ2⟩ (fun k hk => ⟨by omega, hk.2, fun e => by have := (hlt4 k e).2; omega⟩) fun _ _ _ _ h => h
  have hs17 : Cells (W5.alloc (.cells (ndC n (.slice qa n.data.length qc) (.slice ra n.acl.length rc)) 44)).heap.size (W5.alloc (.cells (ndC n (.slice qa n.data.length qc) (.slice ra n.acl.length rc)) 44)) (some ⟨W5.heap.size, 0, none⟩) (ndC n (.slice qa n.data.length qc) (.slice ra n.acl.length rc)).toList := fun j u hj => by
    refine ⟨_, 0, rfl, by simp, ?_⟩
    rw [Nat.zero_add, cell_of_row _ _ _ _ _ _ (heap_alloc_new W5 _)]
    simpa using hj
  have hsrc : Src Tryz.prog 17 50 (.slice (some ⟨W5.heap.size, 0, none⟩) 1 1) 1 (ndC n (.slice qa n.data.length qc) (.slice ra n.acl.length rc)).toList (W5.alloc (.cells (ndC n (.slice qa n.data.length qc) (.slice ra n.acl.length rc)) 44)) :=
    hs17.src Tryz.underlying50 1 1 (by simp [ndC]) (fun u hu => by
      have := cells_node n qa ra n.data.length n.acl.length qc rc
      rw [← Array.all_toList] at this
      exact List.all_eq_true.1 this u hu)
  obtain ⟨i0, hi, hz0, hz1', hz2⟩ := info_parts infoNd
  have hownA := hown5.alloc (.cells (ndC n (.slice qa n.data.length qc) (.slice ra n.acl.length rc)) 44)
  refine wpList_append_src _ hgd s x 50 50 ho base 44 i0 (.agg zeroNd) 17 168 Tryz.underlying50 hi hz0 hz1' hz2 rfl (by decide) ov L.length _ hs hownA _ 1 _ hx hsrc (by unfold maxLen; omega) hl (by simp; omega) ?_
  intro v' w6 hown6 hg6 _ ho6
  exact hK v' w6 (OwnN.step heach5 hnew5 hown6 hg6 (by simpa using ho6)) fun w0 hE0 hb0 => OwnN.keep hE0 hb0 hown5 hg6
end Go.Proofs.YthinpbdbhijbgaaGreatDoor
namespace Go.Proofs.YthinpbdbhijbgaaGreatDoor
open Go.RowKit
set_option maxHeartbeats 1000000
set_option maxRecDepth 100000

end Go.Proofs.YthinpbdbhijbgaaGreatDoor
namespace Go.Proofs.YthinpbdbhijbgaaGreatDoor
open Go.RowKit
set_option maxHeartbeats 2000000
set_option maxRecDepth 100000

end Go.Proofs.YthinpbdbhijbgaaGreatDoor
namespace Go.Proofs.YthinpbdbhijbgaaGreatDoor
open Go.RowKit
set_option maxHeartbeats 1000000
set_option maxRecDepth 100000

end Go.Proofs.YthinpbdbhijbgaaGreatDoor
namespace Go.Proofs.YthinpbdbhijbgaaGreatDoor
open Go.RowKit
set_option maxHeartbeats 1000000
set_option maxRecDepth 100000

end Go.Proofs.YthinpbdbhijbgaaGreatDoor
namespace Go.Proofs.YthinpbdbhijbgaaGreatDoor
open Go.RowKit
set_option maxHeartbeats 2000000
set_option maxRecDepth 100000

end Go.Proofs.YthinpbdbhijbgaaGreatDoor
namespace Go.Proofs.YthinpbdbhijbgaaGreatDoor
open Go.RowKit
set_option maxHeartbeats 2000000
set_option maxRecDepth 100000

section
variable {P : Program} {ops : Array Oper} {rest : List Oper} {o : Oper} {a : Act} {Q : Exit → Act → World → Prop}

end

/-- The first behind a text. -/
def afterN (M : List (Key × Nd)) (s : ByteArray) : Option (Key × Nd) := M.find? fun x => bytesBefore s.data.toList x.1

/-- What the rounds of the range have found. -/
structure Aft (M : List (Key × Nd)) (s : Key) (left : Lit → Bool) (best : ByteArray) (found : Bool) : Prop where
  there : found = true → (∃ n, (best.data.toList, n) ∈ M) ∧ bytesBefore s best.data.toList = true
  no : found = false → best = ⟨#[]⟩
  le : ∀ x ∈ M, left (.string x.1) = false → bytesBefore s x.1 = true → found = true ∧ bytesBefore x.1 best.data.toList = false

theorem Aft.step {M : List (Key × Nd)} {s : Key} {left : Lit → Bool} {best : ByteArray} {found : Bool} (h : Aft M s left best found) (p : ByteArray) {n : Nd} (hp : (p.data.toList, n) ∈ M) :
    Aft M s (fun z => left z && !z.sameKey (.string p.data.toList)) (if bytesBefore s p.data.toList = true ∧ (found = false ∨ bytesBefore p.data.toList best.data.toList = true) then p else best)
      (if bytesBefore s p.data.toList = true ∧ (found = false ∨ bytesBefore p.data.toList best.data.toList = true) then true else found) := by
  have hsame : ∀ k : Key, (Lit.string k).sameKey (.string p.data.toList) = (k == p.data.toList) := fun k => rfl
  have tr : ∀ a b c : Key, bytesBefore a b = true → bytesBefore b c = true → bytesBefore a c = true := fun a b c => WideShapes.bytes_trans a b c
  split
  · rename_i hc
    refine ⟨fun _ => ⟨⟨n, hp⟩, hc.1⟩, fun e => (by cases e), fun x hx hl hs => ⟨rfl, ?_⟩⟩
    simp only [hsame, Bool.and_eq_false_iff, Bool.not_eq_false'] at hl
    rcases hl with hl | hl
    · obtain ⟨h1, h2⟩ := h.le x hx hl hs
      rcases hc.2 with h3 | h3
      · rw [h1] at h3; cases h3
      · cases h4 : bytesBefore x.1 p.data.toList with
        | false => rfl
        | true => rw [tr _ _ _ h4 h3] at h2; cases h2
    · have : x.1 = p.data.toList := by simpa using hl
      rw [this, WideAt.bytes_irrefl]
  · rename_i hc
    refine ⟨h.there, h.no, fun x hx hl hs => ?_⟩
    simp only [hsame, Bool.and_eq_false_iff, Bool.not_eq_false'] at hl
    rcases hl with hl | hl
    · exact h.le x hx hl hs
    · have e : x.1 = p.data.toList := by simpa using hl
      rw [e] at hs ⊢
      cases hf : found with
      | false => exact absurd ⟨hs, .inl hf⟩ hc
      | true =>
        refine ⟨rfl, ?_⟩
        cases h4 : bytesBefore p.data.toList best.data.toList with
        | false => rfl
        | true => exact absurd ⟨hs, .inr h4⟩ hc

theorem Aft.done {M : List (Key × Nd)} (hM : MOk M) {s : ByteArray} {left : Lit → Bool} {best : ByteArray} {found : Bool} (h : Aft M s.data.toList left best found) (hl : ∀ kl, left kl = false) :
    (afterN M s).isSome = found ∧ (mget M best.data.toList).getD zeroN = ((afterN M s).map (·.2)).getD zeroN := by
  unfold afterN
  cases hf : M.find? fun x => bytesBefore s.data.toList x.1 with
  | none =>
    have hno := List.find?_eq_none.1 hf
    cases found with
    | true =>
      obtain ⟨⟨n, hn⟩, hs⟩ := h.there rfl
      exact absurd hs (hno _ hn)
    | false =>
      refine ⟨rfl, ?_⟩
      rw [h.no rfl]
      rw [mget_none_of fun x hx => ?_]
      · rfl
      · intro e
        have h1 := (vpath_facts (right_vpath (hM.right x hx))).1
        have h2 := hM.key x hx
        rw [e] at h2
        have h3 : x.2.path.data.toList = [] := h2.symm
        have h4 : x.2.path.size = 0 := by rw [← size_list, h3]; rfl
        omega
  | some y =>
    have hy := List.find?_some hf
    have hm := List.mem_of_find?_eq_some hf
    obtain ⟨h1, h2⟩ := h.le y hm (hl _) (by simpa using hy)
    subst h1
    refine ⟨rfl, ?_⟩
    obtain ⟨⟨n, hn⟩, hs⟩ := h.there rfl
    have hb : best.data.toList = y.1 := by
      by_cases e : best.data.toList = y.1
      · exact e
      · exfalso
        rcases WideAt.bytes_total _ _ e with h3 | h3
        · have hp := List.find?_eq_some_iff_append.1 hf
          obtain ⟨_, l1, l2, e1, h4⟩ := hp
          have hso := hM.sorted
          rw [e1] at hn hso
          rcases List.mem_append.1 hn with h5 | h5
          · have := h4 _ h5
            rw [hs] at this; cases this
          · rcases List.mem_cons.1 h5 with h6 | h6
            · exact e (by rw [← h6])
            · have h7 := (List.pairwise_append.1 hso).2.1
              have h8 := (List.pairwise_cons.1 h7).1 _ h6
              have h9 := WideShapes.bytes_trans _ _ _ h3 h8
              rw [WideAt.bytes_irrefl] at h9; cases h9
        · rw [h3] at h2; cases h2
    rw [hb, mget_of_mem hM.sorted (show (y.1, y.2) ∈ M from hm)]
    rfl

end Go.Proofs.YthinpbdbhijbgaaGreatDoor
namespace Go.Proofs.YthinpbdbhijbgaaGreatDoor
open Go.RowKit
set_option maxHeartbeats 4000000
set_option maxRecDepth 100000

end Go.Proofs.YthinpbdbhijbgaaGreatDoor
namespace Go.Proofs.YthinpbdbhijbgaaGreatDoor
open Go.RowKit
set_option maxHeartbeats 2000000
set_option maxRecDepth 100000

end Go.Proofs.YthinpbdbhijbgaaGreatDoor
namespace Go.Proofs.YthinpbdbhijbgaaGreatDoor
open Go.RowKit
set_option maxHeartbeats 2000000
set_option maxRecDepth 100000

end Go.Proofs.YthinpbdbhijbgaaGreatDoor
namespace Go.Proofs.YthinpbdbhijbgaaGreatDoor
open Go.RowKit Go.Sort
set_option maxHeartbeats 4000000
set_option maxRecDepth 100000
attribute [local go_sem] Oper.semAt_some

theorem MOk.keys_le {M : List (Key × Nd)} (hok : MOk M) : ∀ k ∈ M.map (·.1), k.length ≤ maxLen := fun k hk => by
  obtain ⟨x, hx, rfl⟩ := List.mem_map.1 hk
  rw [hok.key x hx]
  unfold keyN
  rw [size_list]
  have := (vpath_facts (right_vpath (hok.right x hx))).2.1
  unfold maxLen; omega

end Go.Proofs.YthinpbdbhijbgaaGreatDoor
namespace Go.Proofs.YthinpbdbhijbgaaGreatDoor
open Go.RowKit Go.Sort
set_option maxHeartbeats 4000000
set_option maxRecDepth 100000
attribute [local go_sem] Oper.semAt_some

end Go.Proofs.YthinpbdbhijbgaaGreatDoor
namespace Go.Proofs.YthinpbdbhijbgaaGreatDoor
open Go.RowKit Go.Sort
set_option maxHeartbeats 2000000
set_option maxRecDepth 100000
attribute [local go_sem] Oper.semAt_some

end Go.Proofs.YthinpbdbhijbgaaGreatDoor
namespace Go.Proofs.YthinpbdbhijbgaaGreatDoor
open Go.RowKit Go.Sort
set_option maxHeartbeats 2000000
set_option maxRecDepth 100000

theorem zeroNd_one : zeroNd.all (·.oneCell') = true := by simp [zeroNd, Value.oneCell']
theorem setRow_self (w : World) (z : Array Value) (t : TypeId) : (w.alloc (.cells z t)).setRow w.heap.size z = w.alloc (.cells z t) := setRow_alloc w z z t

theorem tget_nil (s : ByteArray) (w : World) : Calls Tryz.prog 54 #[.pointer none, .string s] w fun e w' => e = .returned (.tuple #[.agg zeroNd, .bool false]) ∧ Ext w w' := by
  have HS := Lib.hid (setRow_self w zeroNd 44)
  have HNew := Lib.hid (heap_alloc_new w (.cells zeroNd 44))
  have HNew2 := Lib.hid (heap_alloc_new w (.cells zeroNd 44))
  unfold zeroNd at HS HNew
  go_enter Tryz.func54, Tryz.ntmps54
  go_wp2_with (refine wpList_store_row rfl 44 (.tmp 4) (.tmp 10) rfl w.heap.size _ rfl rfl 44 _ HNew.out sizeNd rfl zeroNd_one ?_; rw [HS.out])
  refine bodyPost_ret (v := .tuple #[.agg zeroNd, .bool false]) ?_ rfl ⟨rfl, Ext.alloc _ _⟩
  exact results_cell_row2 (p := 4) (q := 5) (ty := 44) rfl _ _ w.heap.size 44 _ (0, 0) _ _ rfl rfl HNew2.out Tryz.underlying44 rfl sizeNd

end Go.Proofs.YthinpbdbhijbgaaGreatDoor
namespace Go.Proofs.YthinpbdbhijbgaaGreatDoor
open Go.RowKit Go.Sort
set_option maxHeartbeats 4000000
set_option maxRecDepth 100000

end Go.Proofs.YthinpbdbhijbgaaGreatDoor
namespace Go.Proofs.YthinpbdbhijbgaaGreatDoor
open Go.RowKit Go.Sort
set_option maxHeartbeats 4000000
set_option maxRecDepth 100000

/-- A row of the call's own that shows these nodes. -/
def NodesOut (L : List Nd) (w : World) (e : Ending) (w' : World) : Prop := ∃ v, e = .returned v ∧ OwnN w.heap.size L v w' ∧ Ext w w'

end Go.Proofs.YthinpbdbhijbgaaGreatDoor
