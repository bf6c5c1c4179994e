/- The walk of (*Tree).under. The plain sums of TreeSums. The walk of (*Tree).Weigh. Plain laws: the paths above a path, the quotas over it, the first one that a change is over. No program in sight. The document's tree, plainly: a list of nodes in order; where a path stands in it. The walks of the references' own texts up to Valid: whether a text is a path, as the document has it. -/
import Derived.Test.YtamolbegmkngdaaGreatDoorJQuotaTurns9
import Derived.Sort.OwnSorted
import Derived.Great.BuildSlice
import Derived.Test.YtamolbegmkngdaaGreatDoorJQuotaTurns7
import Derived.Test.YtamolbegmkngdaaGreatDoorJQuotaTurns6
import Derived.Test.YtamolbegmkngdaaGreatDoorJQuotaTurns1
import Derived.Test.YtamolbegmkngdaaGreatDoorJQuotaTurns2
namespace Go.Proofs.YtamolbegmkngdaaGreatDoor
open Go.RowKit Go.Sort
set_option maxHeartbeats 2000000
set_option maxRecDepth 100000

/-- An operation that leaves memory. -/
theorem dutyS_same {P : Program} {ops : Array Oper} {Q : Exit → Act → World → Prop} {a0 : Act} {i : Nat} {o : Oper} {G : (Nat → Bool) → World → Prop} {Φ : Nat → Value → Prop} (hG : ∀ d d' w, G d w → (∀ k, k ≠ i → d' k = d k) → G d' w)
    (h : ∀ d a w, G d w → Framed ops a0 a → Ahead ops (fun i v _ => Φ i v) o a w → ∃ v, (execOp a.eval o).run P w = .ok (.value v) w ∧ Φ i v) : DutyS P ops Q G Φ a0 i o := by
  intro d a w _ _ _ hGw hF hA
  obtain ⟨v, hr, hv⟩ := h d a w hGw hF hA
  refine wp_value hr ⟨v, rfl, hv, hG d _ _ hGw fun k hk => ?_⟩
  have : (k == i) = false := by simpa using hk
  rw [this, Bool.or_false]

theorem ext_grown {a b : World} (h : Ext a b) (row : Option Nat) : a.grownBy b row := ⟨h.os, h.tape, h.output, h.size, fun k hk _ => h.block k hk⟩
theorem ownBlock_at {w : World} {base e size n : Nat} {v : Value} {xs : List Value} (h : w.ownsRow base e size v n xs) (k : Nat) (hk : v.ownBlock = some k) : ∃ c, w.heap[k]? = some (.cells c e (0, 0)) := by
  rcases h.2 with ⟨rfl, _⟩ | ⟨g, cap, cur, rfl, _, hg, _⟩
  · simp [Value.ownBlock] at hk
  · simp [Value.ownBlock] at hk
    subst hk
    exact ⟨_, hg⟩

/-- A range over a map that may be nil: which names are left. -/
def RngAt (W : World) (r : Nat) (mb : Option Nat) (L : List (Key × Value)) (left : Key → Bool) : Prop :=
  match mb with
  | some b => ∃ (lf : Lit → Bool) (cnt : Nat), (∀ k, lf (.string k) = left k) ∧ W.ranges Tryz.prog 9 Rv b r L.length (kvD L) lf cnt
  | none => L = [] ∧ (∀ k, left k = false) ∧ W.heap[r]? = some (.mapIter none 0 #[] 0)
def rngLeft (mb : Option Nat) (r : Nat) (W : World) : Nat := match mb with | some b => W.rangeLeft b r | none => 0

theorem RngAt.iter {W : World} {r : Nat} {mb : Option Nat} {L : List (Key × Value)} {left : Key → Bool} (h : RngAt W r mb L left) : ∃ m s c d, W.heap[r]? = some (.mapIter m s c d) := by
  cases mb with
  | some b =>
    obtain ⟨lf, cnt, _, es, clock, since, seen, c0, _, _, _, _, hr, _⟩ := h
    exact ⟨_, _, _, _, hr⟩
  | none => exact ⟨_, _, _, _, h.2.2⟩
theorem RngAt.kept {W W' : World} {r : Nat} {mb : Option Nat} {L : List (Key × Value)} {left : Key → Bool} {row : Option Nat} (h : RngAt W r mb L left) (hg : W.grownBy W' row) (hb : ∀ b, mb = some b → some b ≠ row) (hr : some r ≠ row) : RngAt W' r mb L left ∧ rngLeft mb r W' = rngLeft mb r W := by
  cases mb with
  | some b =>
    obtain ⟨lf, cnt, h1, h2⟩ := h
    have h3 := h2.kept hg (hb b rfl) hr
    exact ⟨⟨lf, cnt, h1, h3⟩, by show W'.rangeLeft b r = W.rangeLeft b r; rw [h3.left_eq, h2.left_eq]⟩
  | none =>
    obtain ⟨h1, h2, h3⟩ := h
    exact ⟨⟨h1, h2, (hg.block r (Array.getElem?_eq_some_iff.1 h3).1 hr).trans h3⟩, rfl⟩

section
variable {ops : Array Oper} {rest : List Oper} {o : Oper} {a : Act} {Q : Exit → Act → World → Prop}
theorem run_next_none {P : Program} (w : World) (ty : TypeId) (r s c : Nat) (d : Array Nat) (h : w.heap[r]? = some (.mapIter none s d c)) : (Instr.next (.pointer (some ⟨r, 0, none⟩)) false ty).run P w = .ok (.tuple #[.bool false]) w := by
  simp only [Instr.next, getObj, Sem.run_bind, Sem.run, h, Result.andThen]
  rfl
theorem wpList_next_any (w : World) (hg : o.guard = none) (it : Operand) (hop : o.op = Op.next it false) (mb : Option Nat) (r : Nat) (L : List (Key × Value)) (left : Key → Bool)
    (hit : a.eval it = .pointer (some ⟨r, 0, none⟩)) (h : RngAt w r mb L left)
    (hDone : (∀ k, left k = false) → wpList Tryz.prog ops Q rest (a.put o.dst (.tuple #[.bool false])) w)
    (hMore : ∀ (s : ByteArray) (v : Value) (w' : World), s.size ≤ maxLen → left s.data.toList = true → mget L s.data.toList = some v → RngAt w' r mb L (fun k => left k && !(k == s.data.toList)) → rngLeft mb r w' < rngLeft mb r w →
      w.grownBy w' (some r) → w'.heap.size = w.heap.size → (Instr.entry (.pointer (some ⟨r, 0, none⟩))).run Tryz.prog w' = .ok (.tuple #[.string s, v]) w' → wpList Tryz.prog ops Q rest (a.put o.dst (.tuple #[.bool true, .string s, v])) w') :
    wpList Tryz.prog ops Q (o :: rest) a w := by
  cases mb with
  | some b =>
    obtain ⟨lf, cnt, h1, h2⟩ := h
    refine wpList_next_left w hg it hop 9 strT b r L.length L lf cnt hit h2 (fun hl => hDone fun k => by rw [← h1]; exact hl _) fun s v w' cnt' hs hls hm hrg hlt hgr hsz hen => ?_
    refine hMore s v w' hs (by rw [← h1]; exact hls) hm ⟨_, cnt', fun k => ?_, hrg⟩ ?_ hgr hsz hen
    · show (lf (.string k) && !(k == s.data.toList)) = _
      rw [h1]
    · show w'.rangeLeft b r < w.rangeLeft b r
      rw [hrg.left_eq, h2.left_eq]; exact hlt
  | none =>
    obtain ⟨h1, h2, h3⟩ := h
    refine wpList_plain hg fun K' hK' => ?_
    unfold Oper.wp
    simp [execOp, hop, hit, run_next_none w o.type r 0 0 #[] h3, Result.andThen]
    exact hK' _ _ (hDone h2)
end

/-- What the region that ranges leaves. -/
def UnG (Wr : World) (mb : Option Nat) (L : List (Key × Value)) (d : Nat → Bool) (W : World) : Prop :=
  if d 9 = true then RngAt W Wr.heap.size mb L (fun k => (mget L k).isSome) ∧ Wr.grownBy W none ∧ W.heap.size = Wr.heap.size + 1 else Ext Wr W ∧ W.heap.size = Wr.heap.size
theorem UnG.same {Wr : World} {mb : Option Nat} {L : List (Key × Value)} {i : Nat} (hi : i ≠ 9) (d d' : Nat → Bool) (w : World) (h : UnG Wr mb L d w) (hd : ∀ k, k ≠ i → d' k = d k) : UnG Wr mb L d' w := by
  unfold UnG at h ⊢
  rw [hd 9 (Ne.symm hi)]
  exact h

theorem Bfs.enter {M : List (Key × Nd)} {s : ByteArray} {l : List ByteArray} {i : Nat} {p : ByteArray} (h : Bfs M s l i (fun _ => true)) (hp : l[i]? = some p) : Bfs M s l i (fun k => (mget (kidsOf M p) k).isSome) := by
  refine ⟨h.head, h.nodup, h.mem, h.done, fun q hq x hx hc hl => ?_, fun q hq => ?_⟩
  · exfalso
    have e : p = q := Option.some.inj (hp.symm.trans hq)
    subst e
    have hm : (nameK x.2, Value.agg #[]) ∈ kidsOf M p := mem_kids.2 ⟨x, hx, hc, rfl⟩
    cases hg : mget (kidsOf M p) (nameK x.2) with
    | none => exact mget_none hg _ hm rfl
    | some v => rw [hg] at hl; cases hl
  · rcases h.back q hq with e | ⟨j, r, h1, h2, h3, h4⟩
    · exact .inl e
    · refine .inr ⟨j, r, h1, h2, h3, .inl ?_⟩
      rcases h4 with h4 | ⟨_, h4⟩
      · exact h4
      · cases h4

theorem strInfo : ∃ i, Tryz.prog.info? 9 = some i ∧ i.zero = some (.string ⟨#[]⟩) ∧ i.size = 1 ∧ i.bytes = 16 := info_parts infoStr

def UndL (M : List (Key × Nd)) (s : ByteArray) : List Key := if (mget M s.data.toList).isSome = true then undK M s else []

set_option maxHeartbeats 8000000 in
theorem under_any (S : Nat → Prop) (w : World) (bt : Nat) (M : List (Key × Nd)) (N : Nat) (hT : TreeAt S w bt M N) (hc : Clo M) (s : ByteArray) (hs : s.size ≤ maxLen) (hN : M.length * 16 ≤ 140737488355328) :
    Calls Tryz.prog 120 #[.pointer (some ⟨bt, 0, none⟩), .string s] w (SortedOut (UndL M s) w) := by
  have C1 := tget_any S w bt M N hT s hs
  have HT := Lib.hid hT
  clear hT
  go_enter Tryz.func120, Tryz.ntmps120
  go_wp2_with fail
  refine C1.mono ?_
  rintro e w1 ⟨v, rfl, hv, hE1⟩
  obtain ⟨da, dc, aa, ac, rfl, hD, hA⟩ := hv
  generalize (mget M s.data.toList).getD zeroN = n at *
  clear hD hA
  obtain ⟨W2, hW2⟩ : ∃ W2, W2 = w1.alloc (.cells (ndC n (.slice da n.data.length dc) (.slice aa n.acl.length ac)) 47) := ⟨_, rfl⟩
  have HSET := Lib.hid ((setRow_alloc w1 zeroNd (ndC n (.slice da n.data.length dc) (.slice aa n.acl.length ac)) 47).trans hW2.symm)
  have HNew := Lib.hid (heap_alloc_new w1 (.cells zeroNd 47))
  have hE2 : Ext w1 W2 := by rw [hW2]; exact Ext.alloc _ _
  have hEw2 := hE1.trans hE2
  unfold ndC at HSET ⊢
  unfold zeroNd at HSET HNew
  have HEW := Lib.hid hEw2
  clear C1 hW2 hE1 hE2 hEw2
  cases hg : mget M s.data.toList with
  | none =>
    have hfin : SortedOut (UndL M s) w (.returned (.slice none 0 0)) W2 := by
      have e : UndL M s = [] := by unfold UndL; rw [hg]; rfl
      rw [e]
      exact ⟨_, rfl, World.ownsRow_nil _ _ _ _, by simp, HEW.out⟩
    have HFIN := Lib.hid hfin
    clear hfin hg
    go_wp2_with (refine wpList_store_row rfl 47 (.tmp 5) (.tmp 16) rfl w1.heap.size _ rfl rfl 47 _ HNew.out sizeNd rfl (cells_node n da aa _ _ dc ac) ?_; rw [HSET.out])
    go_ret
    exact HFIN.out
  | some y =>
    have hM := HT.out.ok
    have hys := hM.at hg
    have hmem := mget_some_mem hg
    have hyp : y.path = s := (ba_ext hys.1).symm
    have hu : UndL M s = undK M s := by unfold UndL; rw [hg]; rfl
    have hrow0 : (W2.alloc (.cells #[.string s] 9)).ownsRow W2.heap.size 9 1 (.slice (some ⟨W2.heap.size, 0, none⟩) 1 1) 1 [.string s] := World.ownsRow_lit W2 #[.string s] 1 (Nat.le_refl _) (by unfold maxLen; decide) rfl
    have hB0 : Bfs M s [s] 0 (fun _ => true) := by have := Bfs.start hmem; simpa [hyp] using this
    have hEA : Ext w (W2.alloc (.cells #[.string s] 9)) := HEW.out.trans (Ext.alloc _ _)
    have HB0 := Lib.hid hB0
    have HR0 := Lib.hid hrow0
    have HEA := Lib.hid hEA
    have HG := Lib.hid hg
    have HU := Lib.hid hu
    have hzw := HEW.out.size
    have HM := Lib.hid hM
    have HC := Lib.hid hc
    clear hg hu hrow0 hB0 hEA hmem hys hyp hM hc
    go_wp2_with (refine wpList_store_row rfl 47 (.tmp 5) (.tmp 16) rfl w1.heap.size _ rfl rfl 47 _ HNew.out sizeNd rfl (cells_node n da aa _ _ dc ac) ?_; rw [HSET.out])
    go_loopw [7, 8] (fun lv i wr => ∃ (k : Nat) (l : List ByteArray), i = .int .i64 k ∧ k ≤ l.length ∧ Bfs M s l k (fun _ => true) ∧ wr.ownsRow W2.heap.size 9 1 lv l.length (l.map Value.string) ∧ Ext w wr) (fun _ i _ => M.length - (intOf i).toNat)
    case atStart => exact ⟨0, [s], rfl, Nat.zero_le _, HB0.out, HR0.out, HEA.out⟩
    case round =>
      obtain ⟨k, l, rfl, hkl, hB, hrow, hE⟩ := hrel
      obtain ⟨wo, hwo⟩ : ∃ x, x = wr := ⟨_, rfl⟩
      subst hwo
      have hlM := hB.length_le
      have hl64 : l.length ≤ 9223372036854775807 := by omega
      by_cases hlt : k < l.length
      · have hne : u7 ≠ .slice none 0 0 := fun e => by
          subst e
          rcases hrow.2 with ⟨_, h⟩ | ⟨_, _, _, h, _⟩
          · omega
          · cases h
        obtain ⟨g, cap, hlv, hgb, hgc⟩ : ∃ g cap, u7 = .slice (some ⟨g, 0, none⟩) l.length cap ∧ W2.heap.size ≤ g ∧ wo.cell? ⟨g, k, none⟩ = some (.string l[k]) := by
          rcases hrow.2 with ⟨h, _⟩ | ⟨g, cap, cur, h, hb, _⟩
          · exact absurd h hne
          · refine ⟨g, cap, h, hb, ?_⟩
            have := hrow.cells (g := g) (by rw [h]; rfl) k (.string l[k]) (by rw [List.getElem?_map, List.getElem?_eq_getElem hlt]; rfl)
            rw [addr_add, Nat.zero_add] at this
            exact this
        subst hlv
        have hp : l[k]? = some l[k] := List.getElem?_eq_getElem hlt
        generalize l[k] = p at hgc hp
        obtain ⟨y2, hy2, eyp, _⟩ := hB.mem p (List.mem_of_getElem? hp)
        have hpv := (vpath_facts (right_vpath (HM.out.right y2 hy2))).2.1
        rw [eyp] at hpv
        have hps : p.size ≤ maxLen := by unfold maxLen; omega
        have hTr := HT.out.ext hE
        obtain ⟨bn, bk, mb, hmS, hlook⟩ := hTr.kids_look p hps
        have hG0 : UnG wo mb (kidsOf M p) (fun _ => false) wo.drew := by
          unfold UnG
          simp only [Bool.false_eq_true, if_false]
          exact ⟨Ext.drew _, rfl⟩
        have hsame : ∀ (d : Nat → Bool) (W : World), UnG wo mb (kidsOf M p) d W → Ext wo W := fun d W h => by
          unfold UnG at h
          split at h
          · exact ⟨h.2.1.os, h.2.1.tape, h.2.1.output, h.2.1.size, fun k hk => h.2.1.block k hk (by simp)⟩
          · exact h.1
        have hcell : ∀ (d : Nat → Bool) (W : World), UnG wo mb (kidsOf M p) d W → (∀ k, S k → W.heap[k]? = wo.heap[k]?) ∧ W.cell? ⟨g, k, none⟩ = some (.string p) := fun d W h =>
          ⟨fun k hk => (hsame d W h).block k (hTr.bound k hk), ((hsame d W h).cell (p := ⟨g, k, none⟩) (World.block_lt_of_cell? _ _ hgc)).trans hgc⟩
        have HL := Lib.hid hlook
        have HG0 := Lib.hid hG0
        have HCE := Lib.hid hcell
        have HROW := Lib.hid hrow
        have HBf := Lib.hid hB
        have HE := Lib.hid hE
        have HP := Lib.hid hp
        have HMS := Lib.hid hmS
        have HY2 := Lib.hid (And.intro hy2 eyp)
        clear hlook hG0 hcell hrow hB hE hp hsame hTr hmS hgc hy2 eyp hpv
        have hkL : k < l.length := hlt
        go_wp2
        refine wp_region_P (by kernel_rfl) (region_state_vals 58 (UnG wo mb (kidsOf M p)) HG0.out [.pointer (some ⟨bt, 0, none⟩), .pointer (some ⟨bt, 0, none⟩), .pointer (some ⟨bt, 1, none⟩), .map (some bk), .slice (some ⟨g, 0, none⟩) l.length cap, .int .i64 k, .pointer (some ⟨g, k, none⟩), .string p, .map mb, .pointer (some ⟨wo.heap.size, 0, none⟩)] rfl (by decide) rfl ?duties ?rest)
        case duties =>
          refine ⟨?_, ?_, ?_, ?_, ?_, ?_, ?_, ?_, ?_, ?_, trivial⟩
          · refine dutyS_same (UnG.same (by decide)) fun d a w' hG hF hA => ?_
            have x1 := hF.slot 0 _ (by decide) rfl
            exact ⟨.pointer (some ⟨bt, 0, none⟩), by simp only [execOp, x1]; simp [go_sem], rfl⟩
          · refine dutyS_same (UnG.same (by decide)) fun d a w' hG hF hA => ?_
            have x1 := hA.val 0 28 rfl rfl ⟨⟨0, .data⟩, by simp, rfl, rfl⟩ rfl
            exact ⟨_, ex_nilCheck rfl _ x1, rfl⟩
          · refine dutyS_same (UnG.same (by decide)) fun d a w' hG hF hA => ?_
            have x1 := hA.val 1 29 rfl rfl ⟨⟨1, .data⟩, by simp, rfl, rfl⟩ rfl
            exact ⟨.pointer (some ⟨bt, 1, none⟩), by simp only [execOp, x1]; simp [go_sem], rfl⟩
          · refine dutyS_same (UnG.same (by decide)) fun d a w' hG hF hA => ?_
            have x1 := hA.val 2 30 rfl rfl ⟨⟨2, .data⟩, by simp, rfl, rfl⟩ rfl
            exact ⟨_, ex_cell rfl _ _ x1 ((HL.out w' (HCE.out d w' hG).1).1 1) rfl Tryz.underlying116, rfl⟩
          · refine dutyS_same (UnG.same (by decide)) fun d a w' hG hF hA => ?_
            have x1 := hF.slot 7 _ (by decide) rfl
            exact ⟨.slice (some ⟨g, 0, none⟩) l.length cap, by simp only [execOp, x1]; simp [go_sem], rfl⟩
          · refine dutyS_same (UnG.same (by decide)) fun d a w' hG hF hA => ?_
            have x1 := hF.slot 8 _ (by decide) rfl
            exact ⟨.int .i64 k, by simp only [execOp, x1]; simp [go_sem], rfl⟩
          · refine dutyS_same (UnG.same (by decide)) fun d a w' hG hF hA => ?_
            have x1 := hA.val 4 32 rfl rfl ⟨⟨4, .data⟩, by simp, rfl, rfl⟩ rfl
            have x2 := hA.val 5 33 rfl rfl ⟨⟨5, .data⟩, by simp, rfl, rfl⟩ rfl
            exact ⟨.pointer (some ⟨g, k, none⟩), by simp only [execOp, x1, x2]; simp [go_sem, hkL], rfl⟩
          · refine dutyS_same (UnG.same (by decide)) fun d a w' hG hF hA => ?_
            have x1 := hA.val 6 34 rfl rfl ⟨⟨6, .data⟩, by simp, rfl, rfl⟩ rfl
            exact ⟨_, ex_cell rfl _ _ x1 (HCE.out d w' hG).2 rfl strT, rfl⟩
          · refine dutyS_same (UnG.same (by decide)) fun d a w' hG hF hA => ?_
            have x1 := hA.val 3 31 rfl rfl ⟨⟨3, .data⟩, by simp, rfl, rfl⟩ rfl
            have x2 := hA.val 7 35 rfl rfl ⟨⟨7, .data⟩, by simp, rfl, rfl⟩ rfl
            have hl := (HL.out w' (HCE.out d w' hG).1).2.1
            exact ⟨.map mb, by simp only [execOp, x1, x2]; simp [go_sem, hl], rfl⟩
          · intro d a w' hdi _ _ hG hF hA
            have x1 := hA.val 8 36 rfl rfl ⟨⟨8, .data⟩, by simp, rfl, rfl⟩ rfl
            have hd : d 9 = false := hdi
            obtain ⟨_, _, hmb, hnil, _⟩ := HL.out w' (HCE.out d w' hG).1
            unfold UnG at hG
            rw [if_neg (by rw [hd]; simp)] at hG
            obtain ⟨hEe, hsz⟩ := hG
            have hone : ∃ w4, (Instr.range 161 (.map mb)).run Tryz.prog w' = .ok (.pointer (some ⟨wo.heap.size, 0, none⟩)) w4 ∧ RngAt w4 wo.heap.size mb (kidsOf M p) (fun k => (mget (kidsOf M p) k).isSome) ∧ wo.grownBy w4 none ∧ w4.heap.size = wo.heap.size + 1 := by
              have hgE : wo.grownBy w' none := ⟨hEe.os, hEe.tape, hEe.output, hEe.size, fun k hk _ => hEe.block k hk⟩
              cases hmbc : mb with
              | some b =>
                obtain ⟨w4, h1, h2, h3, h4⟩ := (show w'.ownsMap Tryz.prog 9 Rv b _ _ from hmb b hmbc).range (Maps.string_keyed strT) Tryz.underlying161
                rw [hsz] at h1 h2
                refine ⟨w4, h1, ⟨_, _, fun k => kvD_has _ k, h2⟩, ⟨h3.os.trans hgE.os, h3.tape.trans hgE.tape, h3.output.trans hgE.output, by omega, fun k hk hn => (h3.block k (by omega) hn).trans (hgE.block k hk hn)⟩, by omega⟩
              | none =>
                have h1 := run_range_nilMap (P := Tryz.prog) w' 161 9 180 Tryz.underlying161
                rw [hsz] at h1
                have h3 := hnil hmbc
                refine ⟨_, h1, ⟨h3, fun k => by rw [h3]; rfl, by rw [← hsz]; exact heap_alloc_new w' _⟩, ⟨hgE.os, hgE.tape, hgE.output, by simp; omega, fun k hk hn => (heap_alloc_old w' _ (by omega)).trans (hgE.block k hk hn)⟩, by simp [hsz]⟩
            obtain ⟨w4, h1, h2⟩ := hone
            refine wp_value (w' := w4) (v := .pointer (some ⟨wo.heap.size, 0, none⟩)) (by simp only [execOp, x1]; simp [h1, Result.andThen]) ⟨_, rfl, rfl, ?_⟩
            show UnG wo mb (kidsOf M p) (fun k => d k || k == 9) w4
            unfold UnG
            rw [if_pos (by simp)]
            exact h2
        case rest =>
          intro d W5 hdn hG5
          have h9 := hdn 9 (by decide)
          unfold UnG at hG5
          rw [if_pos h9] at hG5
          obtain ⟨hRg, hgr, hsz5⟩ := hG5
          have hzr := HROW.out.lt g rfl
          have hrow5 := HROW.out.kept hgr (.inr (by simp [Value.ownBlock]))
          have hE5 : Ext w W5 := HE.out.trans ⟨hgr.os, hgr.tape, hgr.output, hgr.size, fun k hk => hgr.block k hk (by simp)⟩
          have hB5 := HBf.out.enter HP.out
          have HRg := Lib.hid hRg
          have HROW5 := Lib.hid hrow5
          have HE5 := Lib.hid hE5
          have HB5 := Lib.hid hB5
          clear hRg hrow5 hE5 hB5 hgr h9 hdn HG0 HL HCE
          simp only [filled, List.zip_cons_cons, List.zip_nil_left, List.foldl_cons, List.foldl_nil, Act.put, List.setIfInBounds_toArray, List.set_cons_succ, List.set_cons_zero, Exit.inBlock, Exit.then]
          rename_i hK
          refine hK _ _ ?_
          clear hK
          go_wp2
          go_loopw [7] (fun lv wr2 => ∃ (l2 : List ByteArray) (left : Key → Bool), l2[k]? = some p ∧ Bfs M s l2 k left ∧ wr2.ownsRow W2.heap.size 9 1 lv l2.length (l2.map Value.string) ∧ RngAt wr2 wo.heap.size mb (kidsOf M p) left ∧ Ext w wr2) (fun _ wr2 => rngLeft mb wo.heap.size wr2)
          case atStart => exact ⟨l, _, HP.out, HB5.out, HROW5.out, HRg.out, HE5.out⟩
          case round =>
            obtain ⟨l2, left, hp2, hB2, hrow2, hRg2, hE2⟩ := hrel
            have hl2M := hB2.length_le
            have hk2 : k < l2.length := (List.getElem?_eq_some_iff.1 hp2).1
            obtain ⟨g2, cap2, hlv2, hgb2⟩ : ∃ g cap, u7 = .slice (some ⟨g, 0, none⟩) l2.length cap ∧ W2.heap.size ≤ g := by
              rcases hrow2.2 with ⟨_, h⟩ | ⟨g, cap, cur, h, hb, _⟩
              · omega
              · exact ⟨g, cap, h, hb⟩
            subst hlv2
            obtain ⟨it1, it2, it3, it4, hit⟩ := hRg2.iter
            have hgr2 : g2 ≠ wo.heap.size := fun e => by
              obtain ⟨c, hc⟩ := ownBlock_at hrow2 g2 rfl
              rw [e, hit] at hc
              cases hc
            have HRW2 := Lib.hid hrow2
            have HB2 := Lib.hid hB2
            have HP2 := Lib.hid hp2
            have HE2 := Lib.hid hE2
            clear hrow2 hB2 hp2 hE2 hit HRg HROW5 HE5 HB5 HROW HBf
            go_wp2_with (at_next; refine wpList_next_any _ rfl _ rfl mb wo.heap.size (kidsOf M p) left rfl hRg2 ?_ ?_)
            · intro hlx
              have hB3 := HB2.out.round HP2.out (fun y hy => hlx y.1)
              have HB3 := Lib.hid hB3
              clear hlx hB3 hRg2
              go_wp2
              go_roundw
              case rel => exact ⟨k + 1, l2, by go_num, by omega, HB3.out, HRW2.out, HE2.out⟩
              case measure => simp [intOf]; omega
            · intro nm nv w6 hnm hln hmg hRg6 hlt6 hg6 hsz6 hen
              obtain ⟨x, hx, hch, he⟩ := mem_kids.1 (mget_some_mem hmg)
              obtain ⟨he1, rfl⟩ := Prod.mk.inj he
              have hMo := HM.out
              have hjn := (join_child hMo hx HY2.out.1 (by rw [HY2.out.2]; exact hch) he1).2
              rw [HY2.out.2] at hjn
              have hps2 : p.size ≤ 140737488355328 := by
                have := (vpath_facts (right_vpath (hMo.right y2 HY2.out.1))).2.1
                rw [HY2.out.2] at this; omega
              have hnm2 : nm.size ≤ 140737488355328 := by
                have h1 := (path_split (right_vpath (hMo.right x hx)) (childOf_iff.1 hch).1).1
                have h2 := (vpath_facts (right_vpath (hMo.right x hx))).2.1
                have h3 := congrArg List.length h1
                rw [List.length_append] at h3
                have h4 : nm.data.toList.length = (nameB x.2.path).data.toList.length := congrArg List.length he1
                rw [← size_list] at h2 ⊢
                omega
              have CJ := join_any p nm w6 hps2 hnm2
              rw [hjn] at CJ
              have hrow6 := HRW2.out.kept hg6 (.inr (by simp [Value.ownBlock]; exact hgr2))
              have hc6 : w6.cell? ⟨g2, k, none⟩ = some (.string p) := by
                have := hrow6.cells (g := g2) rfl k (.string p) (by rw [List.getElem?_map, HP2.out]; rfl)
                rw [addr_add, Nat.zero_add] at this
                exact this
              have hE6 : Ext w w6 := HE2.out.trans' ⟨hg6.os, hg6.tape, hg6.output, hg6.size, fun i hi => hg6.block i (Nat.lt_of_lt_of_le hi HE2.out.size) (fun e => by
                have := Option.some.inj e
                have h1 := HE.out.size
                omega)⟩
              have hBs := HB2.out.step hMo HC.out HP2.out hx hch (by rw [← he1]; exact hln)
              have hxs := (vpath_facts (right_vpath (hMo.right x hx))).2.1
              rw [← he1] at hBs
              have CJ := Lib.hid CJ
              have HRW6 := Lib.hid hrow6
              have HE6 := Lib.hid hE6
              have HBS := Lib.hid hBs
              have HRG6 := Lib.hid hRg6
              have HLT6 := Lib.hid hlt6
              have hk2' : k < l2.length := hk2
              clear hjn hrow6 hE6 hBs hRg6 hlt6 hmg he hch hx hMo hRg2 hg6
              have hl3 := HBS.out.length_le
              rw [List.length_append] at hl3
              simp only [List.length_cons, List.length_nil] at hl3
              go_wp2_with fail
              refine CJ.out.mono ?_
              rintro e w7 ⟨rfl, hb7⟩
              have hE7 : Ext w6 w7 := hb7
              have hrow7 := HRW6.out.kept (ext_grown hE7 none) (.inr (by simp [Value.ownBlock]))
              have hrow8 := hrow7.alloc (.cells #[.string x.2.path] 9)
              have hs1 : Cells (w7.alloc (.cells #[.string x.2.path] 9)).heap.size (w7.alloc (.cells #[.string x.2.path] 9)) (some ⟨w7.heap.size, 0, none⟩) [.string x.2.path] := fun j u hj => by
                refine ⟨_, 0, rfl, by simp, ?_⟩
                rw [Nat.zero_add, cell_of_row _ _ _ _ _ _ (heap_alloc_new w7 _)]
                simpa using hj
              have hsrc : Src Tryz.prog 1 39 (.slice (some ⟨w7.heap.size, 0, none⟩) 1 1) 1 [.string x.2.path] (w7.alloc (.cells #[.string x.2.path] 9)) := hs1.src Tryz.underlying39 1 1 (by simp) (fun u hu => by simp at hu; subst hu; rfl)
              obtain ⟨i0, hi, hz0, hz1', hz2⟩ := strInfo
              obtain ⟨hRg7, hlt7⟩ := HRG6.out.kept (ext_grown hE7 none) (fun _ _ => by simp) (by simp)
              obtain ⟨hRg8, hlt8⟩ := hRg7.kept (World.grownBy_alloc w7 (.cells #[.string x.2.path] 9) none) (fun _ _ => by simp) (by simp)
              have hE8 : Ext w (w7.alloc (.cells #[.string x.2.path] 9)) := (HE6.out.trans hE7).trans (Ext.alloc _ _)
              have hz7 := hE7.size
              have hzE := HE6.out.size
              have hW2z := hrow8.lt g2 rfl
              have HRG8 := Lib.hid hRg8
              have HE8 := Lib.hid hE8
              have HLT8 := Lib.hid (hlt8.trans hlt7)
              clear CJ hb7 hE7 hs1 hRg7 hlt7 hRg8 hlt8 hE8 hrow7 HRG6
              go_wp2_with (at_builtin; refine wpList_append_src _ rfl (.tmp 51) (.tmp 53) 39 39 rfl W2.heap.size 9 i0 (.string ⟨#[]⟩) 1 16 Tryz.underlying39 hi hz0 hz1' hz2 rfl (by decide) _ l2.length _ rfl hrow8 _ 1 _ rfl hsrc ?c1 ?c2 ?c3 ?_)
              case c1 => unfold maxLen; omega
              case c2 => omega
              case c3 => have := hW2z.2; simp at this ⊢; omega
              intro v' w9 hown9 hg9 _ ho9
              have hbrow : ∀ b, mb = some b → some b ≠ (Value.slice (some ⟨g2, 0, none⟩) l2.length cap2).ownBlock := fun b hb e => by
                have h1 := HT.out.bound b (HMS.out b hb)
                have h2 : b = g2 := by simpa [Value.ownBlock] using e
                omega
              obtain ⟨hRg9, hlt9⟩ := HRG8.out.kept hg9 hbrow (by simp [Value.ownBlock]; exact fun e => hgr2 e.symm)
              have hE9 : Ext w w9 := HE8.out.trans' ⟨hg9.os, hg9.tape, hg9.output, hg9.size, fun i hi => hg9.block i (Nat.lt_of_lt_of_le hi HE8.out.size) (fun e => by
                have h2 : i = g2 := by simpa [Value.ownBlock] using e
                omega)⟩
              have hown9' : w9.ownsRow W2.heap.size 9 1 v' (l2 ++ [x.2.path]).length ((l2 ++ [x.2.path]).map Value.string) := by
                simpa using hown9
              have hp9 : (l2 ++ [x.2.path])[k]? = some p := by rw [List.getElem?_append_left hk2']; exact HP2.out
              have hlt : rngLeft mb wo.heap.size w9 < rngLeft mb wo.heap.size wr := by
                rw [hlt9, HLT8.out]; exact HLT6.out
              have HREL := Lib.hid (show ∃ (l2 : List ByteArray) (left : Key → Bool), l2[k]? = some p ∧ Bfs M s l2 k left ∧ w9.ownsRow W2.heap.size 9 1 v' l2.length (l2.map Value.string) ∧ RngAt w9 wo.heap.size mb (kidsOf M p) left ∧ Ext w w9 from ⟨_, _, hp9, HBS.out, hown9', hRg9, hE9⟩)
              have HLT := Lib.hid hlt
              clear hRg9 hlt9 hE9 hown9' hp9 hlt hown9 hg9 ho9 hsrc hrow8 hbrow hen
              go_wp2
              go_roundw
              case rel => exact HREL.out
              case measure => exact HLT.out
      · obtain rfl : k = l.length := by omega
        rcases hrow.2 with ⟨_, h0⟩ | ⟨g, cap, cur, rfl, hbase, hb, h1, h2, h3, h4⟩
        · have := hB.head
          rw [List.eq_nil_of_length_eq_zero h0] at this
          simp at this
        have h4' : cur.toList.take (l.map fun p => p.data.toList).length = (l.map fun p => p.data.toList).map encStr := by
          rw [List.length_map, List.map_map, ← Nat.mul_one l.length, h4]
          refine List.map_congr_left fun p _ => ?_
          simp [encStr]
        have hsrt := hB.sorted HM.out HC.out
        have CS : Calls Tryz.prog 156 #[.slice (some ⟨g, 0, none⟩) l.length cap] wo fun e w' => e = .returned (.tuple #[]) ∧ ∃ n os, w' = grow (putRow encStr (Sort.ahead wo n) g 0 ((l.map fun p => p.data.toList).mergeSort fun x y => decide (x ≤ y)).toArray) os := by
          have := AnyM.slices_Sort_string Tryz.sortS g 0 cap (l.map fun p => p.data.toList) wo (holds_of_block hb h4') (Array.getElem?_eq_some_iff.1 hb).1 (by rw [List.length_map]; omega)
          rw [List.length_map] at this
          exact this
        rw [hsrt] at CS
        have hul : (undK M s).length = (l.map fun p => p.data.toList).length := by rw [← hsrt, List.length_mergeSort]
        have hlm : (l.map fun p => p.data.toList).length = l.length := List.length_map _
        have hfin : ∀ n os, SortedOut (UndL M s) w (.returned (.slice (some ⟨g, 0, none⟩) l.length cap)) (grow (putRow encStr (Sort.ahead wo n) g 0 (undK M s).toArray) os) := fun n os => by
          rw [HU.out]
          have h5 := ownsRow_sorted (n := n) (os := os) hul hbase hb (by rw [hlm]; exact h1) h2 h3
          rw [hlm, ← hlm, ← hul] at h5
          have hpos : 0 < l.length := List.length_pos_of_mem hB.head
          have hE9 := grownBy_sorted (n := n) (os := os) (w := wo) (g := g) (undK M s).toArray
          refine ⟨_, by rw [← hlm, ← hul], ownsRow_base_a h5 (by have := HEW.out.size; omega), ⟨fun e => (by cases e), fun e => (by rw [e] at hul; rw [hlm] at hul; simp at hul; omega)⟩, hE.trans' ⟨hE9.os, hE9.tape, hE9.output, hE9.size, fun i hi => hE9.block i (Nat.lt_of_lt_of_le hi hE.size) (fun e => by
            have := Option.some.inj e
            have := HEW.out.size
            omega)⟩⟩
        have CS := Lib.hid CS
        have HFIN := Lib.hid hfin
        clear hfin hul hsrt h4' h4 hb hB hE hrow
        go_wp2_with fail
        refine CS.out.mono ?_
        rintro e w8 ⟨rfl, n, os, rfl⟩
        clear CS
        go_wp2
        go_ret
        exact HFIN.out n os
end Go.Proofs.YtamolbegmkngdaaGreatDoor
namespace Go.Proofs.YtamolbegmkngdaaGreatDoor
open Go.RowKit
set_option maxHeartbeats 1000000

/-- The children of a path, in order. -/
def kidN (M : List (Key × Nd)) (p : ByteArray) : List (Key × Nd) := M.filter fun c => childOf p c.2
theorem kidsOf_map (M : List (Key × Nd)) (p : ByteArray) : kidsOf M p = (kidN M p).map fun x => (nameK x.2, Value.agg #[]) := rfl
theorem kidN_length (M : List (Key × Nd)) (p : ByteArray) : (kidN M p).length = (kidsOf M p).length := by rw [kidsOf_map, List.length_map]
theorem kidN_mem {M : List (Key × Nd)} {p : ByteArray} {x : Key × Nd} : x ∈ kidN M p ↔ x ∈ M ∧ childOf p x.2 = true := by
  unfold kidN; rw [List.mem_filter]
/-- The sum behind k children. -/
def partN (M : List (Key × Nd)) (p : ByteArray) (own : Nat) (a : Nd → Nat) (k : Nat) : Nat := own + (((kidN M p).take k).map fun c => wtN M c.2.path a).sum
theorem partN_zero (M : List (Key × Nd)) (p : ByteArray) (own : Nat) (a : Nd → Nat) : partN M p own a 0 = own := by
  unfold partN; simp
theorem partN_succ {M : List (Key × Nd)} {p : ByteArray} {own : Nat} {a : Nd → Nat} {k : Nat} (hk : k < (kidN M p).length) : partN M p own a (k + 1) = partN M p own a k + wtN M (kidN M p)[k].2.path a := by
  unfold partN
  rw [List.take_succ_eq_append_getElem hk, List.map_append, List.sum_append]
  simp only [List.map_cons, List.map_nil, List.sum_cons, List.sum_nil]
  omega
theorem partN_all {M : List (Key × Nd)} (hM : MOk M) (hc : Clo M) {s : Key × Nd} (hs : s ∈ M) (a : Nd → Nat) : partN M s.2.path (a s.2) a (kidN M s.2.path).length = wtN M s.2.path a := by
  rw [wt_split hM hc hs]
  unfold partN
  rw [List.take_length]
  rfl
theorem sum_take_le (l : List Nat) (k : Nat) : (l.take k).sum ≤ l.sum := by
  induction l generalizing k with
  | nil => simp
  | cons x l ih =>
    cases k with
    | zero => simp
    | succ k => simp only [List.take_succ_cons, List.sum_cons]; have := ih k; omega
theorem partN_le {M : List (Key × Nd)} (hM : MOk M) (hc : Clo M) {s : Key × Nd} (hs : s ∈ M) (a : Nd → Nat) (k : Nat) : partN M s.2.path (a s.2) a k ≤ wtN M s.2.path a := by
  rw [← partN_all hM hc hs a]
  unfold partN
  rw [List.take_length, List.map_take]
  have := sum_take_le ((kidN M s.2.path).map fun c => wtN M c.2.path a) k
  omega
theorem wtN_one (M : List (Key × Nd)) (s : ByteArray) : wtN M s (fun _ => 1) = (undK M s).length := by
  unfold wtN undK
  rw [List.length_map]
  generalize M.filter (fun x => und x.2.path s) = l
  induction l with
  | nil => rfl
  | cons x l ih =>
    rw [List.map_cons, List.sum_cons, ih, List.length_cons, Nat.add_comm]
theorem sum_le_len {α : Type} (l : List α) (a : α → Nat) (B : Nat) (h : ∀ x ∈ l, a x ≤ B) : (l.map a).sum ≤ l.length * B := by
  induction l with
  | nil => simp
  | cons x l ih =>
    have h1 := h x (List.mem_cons_self ..)
    have h2 := ih fun y hy => h y (List.mem_cons_of_mem _ hy)
    simp only [List.map_cons, List.sum_cons, List.length_cons, Nat.add_mul]; omega
theorem wtN_le (M : List (Key × Nd)) (s : ByteArray) (a : Nd → Nat) (B : Nat) (h : ∀ x ∈ M, a x.2 ≤ B) : wtN M s a ≤ M.length * B := by
  unfold wtN
  refine Nat.le_trans (sum_le_len _ _ B fun x hx => h x (List.mem_filter.1 hx).1) ?_
  exact Nat.mul_le_mul_right _ (List.length_filter_le _ _)
theorem undK_length_le (M : List (Key × Nd)) (s : ByteArray) : (undK M s).length ≤ M.length := by
  unfold undK; rw [List.length_map]; exact List.length_filter_le _ _

/-- The bytes of the nodes at these paths. -/
def bytesK (M : List (Key × Nd)) (ks : List Key) : Nat := (ks.map fun k => ((mget M k).getD zeroN).data.length).sum
theorem bytesK_und {M : List (Key × Nd)} (hM : MOk M) (s : ByteArray) : bytesK M (undK M s) = wtN M s (fun n => n.data.length) := by
  unfold bytesK undK wtN
  rw [List.map_map]
  congr 1
  refine List.map_congr_left fun x hx => ?_
  have hx' := (List.mem_filter.1 hx).1
  show ((mget M x.1).getD zeroN).data.length = _
  rw [mget_of_mem hM.sorted (show (x.1, x.2) ∈ M from hx')]
  rfl
theorem bytesK_succ (M : List (Key × Nd)) (ks : List Key) (k : Nat) (hk : k < ks.length) : bytesK M (ks.take (k + 1)) = bytesK M (ks.take k) + ((mget M ks[k]).getD zeroN).data.length := by
  unfold bytesK
  rw [List.take_succ_eq_append_getElem hk, List.map_append, List.sum_append]
  simp
theorem data_le {M : List (Key × Nd)} (hM : MOk M) (k : Key) : ((mget M k).getD zeroN).data.length ≤ 1048575 := by
  cases hg : mget M k with
  | none => simp [zeroN]
  | some n => exact (right_fit (hM.at hg).2).2.1
theorem bytesK_le {M : List (Key × Nd)} (hM : MOk M) (ks : List Key) : bytesK M ks ≤ ks.length * 1048575 :=
  sum_le_len ks _ _ fun k _ => data_le hM k

/-- The children's paths as the law writes them. -/
theorem child_text {M : List (Key × Nd)} (hM : MOk M) {x y : Key × Nd} (hx : x ∈ M) (hy : y ∈ M) (h : childOf y.2.path x.2 = true) :
    (y.2.path.data.toList = [47] → (⟨#[47]⟩ : ByteArray) ++ ⟨(nameK x.2).toArray⟩ = x.2.path) ∧ (¬ y.2.path.data.toList = [47] → y.2.path ++ (⟨#[47]⟩ : ByteArray) ++ ⟨(nameK x.2).toArray⟩ = x.2.path) := by
  obtain ⟨c1, c2⟩ := childOf_iff.1 h
  have p1 := (path_split (right_vpath (hM.right x hx)) c1).1
  rw [c2] at p1
  have hv := right_vpath (hM.right y hy)
  constructor
  · intro hr
    apply ba_ext
    rw [p1]
    have h1 : y.2.path.size = 1 := by rw [← size_list, hr]; rfl
    unfold preL nameK
    rw [if_pos h1, hr]
    simp [ByteArray.data_append]
  · intro hr
    apply ba_ext
    rw [p1]
    have h1 : ¬ y.2.path.size = 1 := fun e => hr ((root_iff hv).1 e)
    unfold preL nameK
    rw [if_neg h1]
    simp [ByteArray.data_append]
theorem kid_get {M : List (Key × Nd)} (hM : MOk M) {p : ByteArray} {k : Nat} (hk : k < (kidN M p).length) : (kidN M p)[k] ∈ M ∧ childOf p (kidN M p)[k].2 = true := kidN_mem.1 (List.getElem_mem hk)
/-- A node is there. -/
theorem there_of {M : List (Key × Nd)} (hM : MOk M) {x : Key × Nd} (hx : x ∈ M) : mget M x.2.path.data.toList = some x.2 := by
  have hk := hM.key x hx
  have := mget_of_mem hM.sorted (show (x.1, x.2) ∈ M from hx)
  rw [hk] at this
  exact this
end Go.Proofs.YtamolbegmkngdaaGreatDoor
namespace Go.Proofs.YtamolbegmkngdaaGreatDoor
open Go.RowKit Go.Sort
set_option maxHeartbeats 2000000
set_option maxRecDepth 100000

theorem wpList_field {P : Program} {ops : Array Oper} {rest : List Oper} {o : Oper} {a : Act} {Q : Exit → Act → World → Prop} {w : World} (hg : o.guard = none) (ty : TypeId) (x : Operand) (i : Nat) (ho : o.op = .field ty x i) (u : Value) (hx : a.eval x = u) (v : Value)
    (hr : (Instr.field ty u i).run P w = .ok v w) (hK : wpList P ops Q rest (a.put o.dst v) w) : wpList P ops Q (o :: rest) a w :=
  wpList_plain hg fun K hK' => by
    subst hx
    unfold Oper.wp
    simp only [execOp, ho, Sem.run_bind, Sem.run_pure, Result.andThen_ok, hr]
    exact hK' _ _ hK
theorem field_data {a b c d e f g h i j k l m n o p q : Value} {w : World} : (Instr.field 47 (.agg #[a, b, c, d, e, f, g, h, i, j, k, l, m, n, o, p, q]) 1).run Tryz.prog w = .ok b w := by
  kernel_rfl

def WeighOut (M : List (Key × Nd)) (s : ByteArray) (w : World) (e : Ending) (w' : World) : Prop :=
  e = .returned (if (mget M s.data.toList).isSome = true then .tuple #[.int .i64 (undK M s).length, .int .i64 (bytesK M (undK M s)), .int .i64 0] else .tuple #[.int .i64 0, .int .i64 0, .int .i64 70]) ∧ Ext w w'

theorem UndL_none {M : List (Key × Nd)} {s : ByteArray} (h : mget M s.data.toList = none) : UndL M s = [] := by unfold UndL; rw [h]; rfl
theorem UndL_some {M : List (Key × Nd)} {s : ByteArray} {y : Nd} (h : mget M s.data.toList = some y) : UndL M s = undK M s := by unfold UndL; rw [h]; rfl
theorem und_self_mem {M : List (Key × Nd)} (hM : MOk M) {s : ByteArray} {y : Nd} (h : mget M s.data.toList = some y) : 0 < (undK M s).length := by
  have hm := mget_some_mem h
  have hp : y.path = s := (ba_ext (hM.at h).1).symm
  have : s.data.toList ∈ undK M s := by
    unfold undK
    exact List.mem_map.2 ⟨_, List.mem_filter.2 ⟨hm, by show und y.path s = true; rw [hp]; exact und_self s⟩, rfl⟩
  exact List.length_pos_of_mem this

theorem weigh_any (S : Nat → Prop) (w : World) (bt : Nat) (M : List (Key × Nd)) (N : Nat) (hT : TreeAt S w bt M N) (hc : Clo M) (s : ByteArray) (hs : s.size ≤ maxLen) (hN : M.length * 168 ≤ 140737488355328) :
    Calls Tryz.prog 60 #[.pointer (some ⟨bt, 0, none⟩), .string s] w (WeighOut M s w) := by
  have C1 := Lib.hid (under_any S w bt M N hT hc s hs (by omega))
  have HT := Lib.hid hT
  have hM := hT.ok
  clear hT
  go_enter Tryz.func60, Tryz.ntmps60
  go_wp2_with fail
  refine C1.out.mono ?_
  rintro e w1 ⟨v, rfl, hrow, hnil, hE1⟩
  clear C1
  obtain ⟨sa, sc, rfl, hcs⟩ := ownsRow_cells hrow
  cases hg : mget M s.data.toList with
  | none =>
    have hfin : WeighOut M s w (.returned (.tuple #[.int .i64 0, .int .i64 0, .int .i64 70])) w1 := ⟨by rw [hg]; rfl, hE1⟩
    have HFIN := Lib.hid hfin
    have e0 : (UndL M s).length = 0 := by rw [UndL_none hg]; rfl
    rw [e0] at *
    clear hfin hg hrow hnil hE1 hcs
    go_wp2
    go_ret3
    exact HFIN.out
  | some y =>
    have hU := UndL_some hg
    have hpos := und_self_mem hM hg
    rw [hU] at hcs
    rw [hU]
    generalize hks : undK M s = ks at *
    have hkl : ks.length ≤ M.length := by rw [← hks]; exact undK_length_le M s
    have hkey : ∀ k ∈ ks, k.length ≤ maxLen := fun k hk => by
      rw [← hks] at hk
      unfold undK at hk
      obtain ⟨x, hx, rfl⟩ := List.mem_map.1 hk
      have hxM := (List.mem_filter.1 hx).1
      have h1 := hM.key x hxM
      have h2 := (vpath_facts (right_vpath (hM.right x hxM))).2.1
      rw [h1]
      unfold keyN maxLen
      rw [size_list]; omega
    have hfin : WeighOut M s w (.returned (.tuple #[.int .i64 ks.length, .int .i64 (bytesK M ks), .int .i64 0])) w1 := ⟨by rw [hg, hks]; rfl, hE1⟩
    have HFIN := Lib.hid hfin
    have HCS := Lib.hid hcs
    have HKEY := Lib.hid hkey
    have hT1 := HT.out.ext hE1
    have HT1 := Lib.hid hT1
    have hlp : ¬ ks.length = 0 := by omega
    have hlb : ((ks.length : Int) == 0) = false := by simp; exact fun e => hlp (by rw [e]; rfl)
    have hl64 : ks.length ≤ 9223372036854775807 := by omega
    clear hfin hg hrow hnil hE1 hcs hkey hT1 hks HT hU hpos
    go_wp2
    go_loopw [8, 19] (fun sm i wr => ∃ k : Nat, k ≤ ks.length ∧ i = .int .i64 k ∧ sm = .int .i64 (bytesK M (ks.take k)) ∧ wr = w1) (fun _ i _ => ks.length - (intOf i).toNat)
    case atStart => exact ⟨0, Nat.zero_le _, rfl, rfl, rfl⟩
    case round =>
      obtain ⟨k, hk, rfl, rfl, rfl⟩ := hrel
      by_cases hlt : k < ks.length
      · obtain ⟨b, off, rfl, hb, hc⟩ := HCS.out k (encStr ks[k]) (by rw [List.getElem?_map, List.getElem?_eq_getElem hlt]; rfl)
        have hkz : (⟨ks[k].toArray⟩ : ByteArray).size ≤ maxLen := by
          have := HKEY.out ks[k] (List.getElem_mem hlt)
          rw [← size_list]; simpa using this
        obtain ⟨bn, bk, K, hd, hNd, hKd⟩ := HT1.out
        have hx := TreeAt.box hd
        obtain ⟨vv, hvv, _, hq⟩ := hNd.look' ⟨ks[k].toArray⟩ hkz
        rw [key_back] at hvv
        have hsucc := bytesK_succ M ks k hlt
        have hle1 := bytesK_le hM (ks.take k)
        have hle2 := data_le hM ks[k]
        have hln : (ks.take k).length ≤ ks.length := by simp; omega
        obtain ⟨ea, ec, fa, fc, rfl, _⟩ := hvv
        generalize (mget M ks[k]).getD zeroN = n at *
        have HSC := Lib.hid hsucc
        have hb1 : (0 : Int) ≤ (bytesK M (ks.take k) : Int) + (n.data.length : Int) := by omega
        have hb2 : (bytesK M (ks.take k) : Int) + (n.data.length : Int) < 9223372036854775808 := by omega
        unfold Box treeC at hx
        unfold ndC at hq
        clear hd hNd hKd hsucc
        go_wp2_with (refine wpList_field rfl 47 (.tmp 29) 1 rfl _ rfl (.slice ea n.data.length ec) field_data ?_)
        go_roundw
        case rel => exact ⟨k + 1, by omega, by go_num, by rw [HSC.out]; push_cast; go_num, by first | rfl | trivial⟩
        case measure => simp [intOf]; omega
      · obtain rfl : k = ks.length := by omega
        rw [List.take_length]
        go_wp2
        go_ret3
        exact HFIN.out
end Go.Proofs.YtamolbegmkngdaaGreatDoor
namespace Go.Proofs.YtamolbegmkngdaaGreatDoor
open Go.RowKit

/-- The paths above one, from the nearest on. -/
def upF : Nat → ByteArray → List ByteArray
  | 0, _ => []
  | f + 1, p => if p.size = 1 then [] else parentB p :: upF f (parentB p)
def upL (p : ByteArray) : List ByteArray := upF p.size p
theorem upF_fuel : ∀ (f g : Nat) (p : ByteArray), vpath p = true → p.size ≤ f → p.size ≤ g → upF f p = upF g p
  | 0, _, p, hv, hf, _ => by have := (vpath_facts hv).1; omega
  | _ + 1, 0, p, hv, hf, hg => by have := (vpath_facts hv).1; omega
  | f + 1, g + 1, p, hv, hf, hg => by
    simp only [upF]
    by_cases h1 : p.size = 1
    · rw [if_pos h1, if_pos h1]
    · have hs := (path_split hv h1).2.2.1
      rw [if_neg h1, if_neg h1, upF_fuel f g (parentB p) (vpath_parent hv h1) (by omega) (by omega)]
theorem upL_one {p : ByteArray} (h1 : p.size = 1) : upL p = [] := by
  unfold upL; rw [h1]; simp [upF, h1]
theorem upL_step {p : ByteArray} (hv : vpath p = true) (h1 : p.size ≠ 1) : upL p = parentB p :: upL (parentB p) := by
  have hp := (vpath_facts hv).1
  have hs := (path_split hv h1).2.2.1
  obtain ⟨g, hg⟩ : ∃ g, p.size = g + 1 := ⟨p.size - 1, by omega⟩
  have e1 := upF_fuel g (parentB p).size (parentB p) (vpath_parent hv h1) (by omega) (Nat.le_refl _)
  unfold upL
  rw [hg]
  simp only [upF]
  rw [if_neg h1, e1]
theorem upL_length : ∀ (n : Nat) (p : ByteArray), p.size ≤ n → vpath p = true → (upL p).length ≤ p.size - 1
  | 0, p, hn, hv => by have := (vpath_facts hv).1; omega
  | n + 1, p, hn, hv => by
    by_cases h1 : p.size = 1
    · rw [upL_one h1]; simp
    · have hs := (path_split hv h1).2.2.1
      have hp := vpath_parent hv h1
      have := upL_length n (parentB p) (by omega) hp
      have h2 := (vpath_facts hp).1
      rw [upL_step hv h1, List.length_cons]
      omega
theorem upL_mem : ∀ (n : Nat) (p : ByteArray), p.size ≤ n → vpath p = true → ∀ q, q = p ∨ q ∈ upL p ↔ und p q = true
  | 0, p, hn, hv, q => by have := (vpath_facts hv).1; omega
  | n + 1, p, hn, hv, q => by
    by_cases h1 : p.size = 1
    · rw [upL_one h1, undV_one h1]
      simp only [List.not_mem_nil, or_false, beq_iff_eq]
      exact ⟨fun h => by rw [h], fun h => (ByteArray.ext h).symm⟩
    · have hs := (path_split hv h1).2.2.1
      rw [upL_step hv h1, undV_up hv h1, List.mem_cons, Bool.or_eq_true, ← upL_mem n (parentB p) (by omega) (vpath_parent hv h1) q, beq_iff_eq]
      constructor
      · rintro (h | h | h)
        · exact .inl (by rw [h])
        · exact .inr (.inl h)
        · exact .inr (.inr h)
      · rintro (h | h | h)
        · exact .inl (ByteArray.ext h).symm
        · exact .inr (.inl h)
        · exact .inr (.inr h)

/-- The path and those above it, from the root on. -/
def lineL (p : ByteArray) : List ByteArray := (upL p).reverse ++ [p]
/-- The node of a path, if it bears a quota. -/
def quoN (M : List (Key × Nd)) (q : ByteArray) : List Nd := match mget M q.data.toList with | some n => if n.has = true then [n] else [] | none => []
/-- The quotas over a path. -/
def overL (M : List (Key × Nd)) (p : ByteArray) : List Nd := if vpath p = true then (lineL p).flatMap (quoN M) else []

/-- Is a bound passed? -/
def passB (bound used more : Int) : Bool := decide (more > 0) && bound != -1 && (decide (used > bound) || decide (more > wrap64 (bound - used)))
def overB (M : List (Key × Nd)) (dn db : Int) (n : Nd) : Bool := passB n.count (undK M n.path).length dn || passB n.bytes (bytesK M (undK M n.path)) db
def firstO (M : List (Key × Nd)) (p : ByteArray) (dn db : Int) : Option Nd := (overL M p).find? (overB M dn db)

theorem passB_more {bound used more m2 : Int} (h : more ≤ m2) (hp : passB bound used more = true) : passB bound used m2 = true := by
  unfold passB at hp ⊢
  simp only [Bool.and_eq_true, Bool.or_eq_true, decide_eq_true_eq] at hp ⊢
  obtain ⟨⟨h1, h2⟩, h3⟩ := hp
  exact ⟨⟨by omega, h2⟩, h3.imp id fun h => by omega⟩
theorem passB_none {bound used more : Int} (h : more ≤ 0) : passB bound used more = false := by
  unfold passB
  rw [decide_eq_false (by omega)]
  rfl
theorem firstO_is (M : List (Key × Nd)) (p : ByteArray) (dn db : Int) : (firstO M p dn db).isSome = ((firstO M p dn 0).isSome || (firstO M p 0 db).isSome) := by
  unfold firstO
  rw [Bool.eq_iff_iff, Bool.or_eq_true, List.find?_isSome, List.find?_isSome, List.find?_isSome]
  simp only [overB, Bool.or_eq_true, passB_none (Int.le_refl 0), Bool.false_eq_true, or_false, false_or]
  constructor
  · rintro ⟨x, hx, h | h⟩
    · exact .inl ⟨x, hx, h⟩
    · exact .inr ⟨x, hx, h⟩
  · rintro (⟨x, hx, h⟩ | ⟨x, hx, h⟩)
    · exact ⟨x, hx, .inl h⟩
    · exact ⟨x, hx, .inr h⟩
end Go.Proofs.YtamolbegmkngdaaGreatDoor
namespace Go.Proofs.YtamolbegmkngdaaGreatDoor
open Go.RowKit
set_option maxHeartbeats 1000000

/-- Two texts, byte by byte. -/
def ordL : List UInt8 → List UInt8 → Int
  | [], [] => 0
  | [], _ :: _ => -1
  | _ :: _, [] => 1
  | x :: a, y :: b => if x.toNat < y.toNat then -1 else if y.toNat < x.toNat then 1 else ordL a b
theorem ordL_eq : ∀ a b : List UInt8, ordL a b = if a = b then 0 else if bytesBefore a b = true then -1 else 1
  | [], [] => by simp [ordL]
  | [], y :: b => by simp [ordL, bytesBefore]
  | x :: a, [] => by simp [ordL, bytesBefore]
  | x :: a, y :: b => by
    simp only [ordL, ordL_eq a b, bytesBefore, Bool.or_eq_true, decide_eq_true_eq, Bool.and_eq_true, beq_iff_eq, List.cons.injEq, UInt8.lt_iff_toNat_lt]
    by_cases h1 : x.toNat < y.toNat
    · have hne : x ≠ y := fun e => by rw [e] at h1; omega
      rw [if_pos h1, if_neg (fun h => hne h.1), if_pos (.inl h1)]
    · by_cases h2 : y.toNat < x.toNat
      · have hne : x ≠ y := fun e => by rw [e] at h2; omega
        rw [if_neg h1, if_pos h2, if_neg (fun h => hne h.1), if_neg (fun h => h.elim h1 fun h => hne h.1)]
      · have he : x = y := UInt8.toNat_inj.1 (by omega)
        subst he
        rw [if_neg h1, if_neg h2]
        by_cases h3 : a = b
        · rw [if_pos h3, if_pos ⟨rfl, h3⟩]
        · have e1 : ¬ (x = x ∧ a = b) := fun h => h3 h.2
          rw [if_neg h3, if_neg e1]
          by_cases h4 : bytesBefore a b = true
          · rw [if_pos h4, if_pos (.inr ⟨rfl, h4⟩)]
          · have e2 : ¬ (x.toNat < x.toNat ∨ x = x ∧ bytesBefore a b = true) := fun h => h.elim h1 fun h => h4 h.2
            rw [if_neg h4, if_neg e2]

/-- The nodes alone. -/
def nds (M : List (Key × Nd)) : List Nd := M.map (·.2)
theorem nds_length (M : List (Key × Nd)) : (nds M).length = M.length := List.length_map _
/-- The place of a path; is it there? -/
def rfind : List Nd → ByteArray → Nat × Bool
  | [], _ => (0, false)
  | n :: r, s => if ordL n.path.data.toList s.data.toList = 0 then (0, true) else if 0 < ordL n.path.data.toList s.data.toList then (0, false) else ((rfind r s).1 + 1, (rfind r s).2)
theorem rfind_le : ∀ (L : List Nd) (s : ByteArray), (rfind L s).1 ≤ L.length
  | [], _ => Nat.zero_le _
  | n :: r, s => by
    have := rfind_le r s
    unfold rfind
    split
    · exact Nat.zero_le _
    split
    · exact Nat.zero_le _
    · simp only [List.length_cons]; omega
theorem rfind_lt : ∀ (L : List Nd) (s : ByteArray), (rfind L s).2 = true → ∃ n, L[(rfind L s).1]? = some n ∧ n.path = s
  | [], _, h => by cases h
  | n :: r, s, h => by
    unfold rfind at h ⊢
    split at h
    · rename_i h0
      rw [if_pos h0]
      refine ⟨n, rfl, ?_⟩
      rw [ordL_eq] at h0
      split at h0
      · rename_i e; exact ba_ext e
      · split at h0 <;> simp at h0
    split at h
    · cases h
    · rename_i h0 h1
      rw [if_neg h0, if_neg h1]
      obtain ⟨m, hm, e⟩ := rfind_lt r s h
      exact ⟨m, by simpa using hm, e⟩

theorem rfind_there : ∀ {M : List (Key × Nd)}, MSorted M → (∀ x ∈ M, x.1 = keyN x.2) → ∀ s : ByteArray, (rfind (nds M) s).2 = (mget M s.data.toList).isSome
  | [], _, _, _ => rfl
  | y :: r, hs, hk, s => by
    obtain ⟨h1, h2⟩ := List.pairwise_cons.1 hs
    have ih := rfind_there h2 (fun x hx => hk x (List.mem_cons_of_mem _ hx)) s
    have hy : y.1 = y.2.path.data.toList := hk y (List.mem_cons_self ..)
    show (rfind (y.2 :: nds r) s).2 = _
    unfold rfind
    rw [ordL_eq, ← hy]
    by_cases e : y.1 = s.data.toList
    · rw [if_pos e, if_pos rfl]
      have : mget (y :: r) s.data.toList = some y.2 := mget_of_mem hs (by rw [← e]; exact List.mem_cons_self ..)
      rw [this]; rfl
    · have hg : mget (y :: r) s.data.toList = mget r s.data.toList := by
        unfold mget
        rw [List.find?_cons_of_neg (by simpa using e)]
      rw [if_neg e, hg]
      by_cases hb : bytesBefore y.1 s.data.toList = true
      · rw [if_pos hb, if_neg (by decide), if_neg (by decide)]
        exact ih
      · rw [if_neg hb, if_neg (by decide), if_pos (by decide)]
        have hsy : bytesBefore s.data.toList y.1 = true := by
          rcases WideAt.bytes_total _ _ e with h | h
          · exact absurd h hb
          · exact h
        have : mget r s.data.toList = none := mget_none_of fun x hx e' => by
          have := h1 x hx
          rw [e'] at this
          exact before_asymm this hsy
        rw [this]; rfl

theorem mdel_none {M : List (Key × Nd)} {k : Key} (h : ∀ x ∈ M, x.1 ≠ k) : mdel M k = M := by
  unfold mdel
  exact List.filter_eq_self.2 fun x hx => by simpa using h x hx
theorem rfind_ins' : ∀ {M : List (Key × Nd)}, (∀ x ∈ M, x.1 = keyN x.2) → ∀ n : Nd, (∀ x ∈ M, x.1 ≠ keyN n) → nds (mins (keyN n, n) M) = (nds M).take (rfind (nds M) n.path).1 ++ n :: (nds M).drop (rfind (nds M) n.path).1
  | [], _, _, _ => rfl
  | y :: r, hk, n, hn => by
    have ih := rfind_ins' (fun x hx => hk x (List.mem_cons_of_mem _ hx)) n (fun x hx => hn x (List.mem_cons_of_mem _ hx))
    have hy : y.1 = y.2.path.data.toList := hk y (List.mem_cons_self ..)
    have he : ¬ y.1 = n.path.data.toList := hn y (List.mem_cons_self ..)
    show nds (mins (keyN n, n) (y :: r)) = (y.2 :: nds r).take (rfind (y.2 :: nds r) n.path).1 ++ n :: (y.2 :: nds r).drop (rfind (y.2 :: nds r) n.path).1
    unfold rfind mins
    rw [ordL_eq, ← hy, if_neg he]
    by_cases hb : bytesBefore y.1 n.path.data.toList = true
    · have hnb : ¬ bytesBefore (keyN n, n).1 y.1 = true := fun h => before_asymm h hb
      rw [if_pos hb, if_neg hnb, if_neg (show ¬ ((-1 : Int) = 0) by decide), if_neg (show ¬ ((0 : Int) < -1) by decide)]
      simp only [List.take_succ_cons, List.drop_succ_cons, List.cons_append]
      rw [← ih]; rfl
    · have hnb : bytesBefore (keyN n, n).1 y.1 = true := by
        rcases WideAt.bytes_total _ _ he with h | h
        · exact absurd h hb
        · exact h
      rw [if_neg hb, if_pos hnb, if_neg (show ¬ ((1 : Int) = 0) by decide), if_pos (show (0 : Int) < 1 by decide)]
      rfl
theorem rfind_ins {M : List (Key × Nd)} (hM : MOk M) (n : Nd) (hn : mget M (keyN n) = none) : nds (mput M (keyN n) n) = (nds M).take (rfind (nds M) n.path).1 ++ n :: (nds M).drop (rfind (nds M) n.path).1 := by
  have h := mget_none hn
  unfold mput
  rw [mdel_none h]
  exact rfind_ins' hM.key n h
end Go.Proofs.YtamolbegmkngdaaGreatDoor
namespace Go.Proofs.YtamolbegmkngdaaGreatDoor
open Go.RowKit
set_option maxHeartbeats 400000
set_option maxRecDepth 100000

theorem rkind_any (r : Int) (w : World) : Calls Tryz.prog 198 #[.int .i64 r] w fun e w' => e = .returned (.int .i64 (kindN r)) ∧ w = w' := by
  go_enter Tryz.func198, Tryz.ntmps198
  go_wp2
  all_goals (try go_ret)
  all_goals (refine ⟨ret_int ?_, rfl⟩; go_light; (try simp only [beq_iff_eq, beq_eq_false_iff_ne, ne_eq] at *); unfold kindN; repeat' split)
  all_goals (first | rfl | (exfalso; omega))

def kindR (r : Int) : Int := if r < 0 then 8 else kindN r
theorem kindR_pl (r : Int) : kindR r = 1 ↔ (0 ≤ r ∧ pl r.toNat = true) := by
  unfold kindR
  split
  · constructor <;> intro h <;> omega
  · have := kindN_pl r.toNat
    rw [show ((r.toNat : Nat) : Int) = r from by omega] at this
    rw [this]
    constructor
    · intro h; exact ⟨by omega, h⟩
    · exact fun h => h.2

theorem rof_any (r : Int) (w : World) : Calls Tryz.prog 181 #[.int .i64 r] w fun e w' => e = .returned (.int .i64 (kindR r)) ∧ w = w' := by
  by_cases h : r < 0
  · have e := Lib.hid (show kindR r = 8 by unfold kindR; rw [if_pos h])
    go_enter Tryz.func181, Tryz.ntmps181
    go_wp2
    go_ret
    exact ⟨ret_int e.out.symm, rfl⟩
  · have e := Lib.hid (show kindR r = kindN r by unfold kindR; rw [if_neg h])
    have h' : 0 ≤ r := by omega
    go_enter Tryz.func181, Tryz.ntmps181
    go_wp2_with (go_at_call 198; refine (rkind_any _ _).mono ?_; rintro e w' ⟨rfl, rfl⟩)
    go_ret
    exact ⟨ret_int e.out.symm, rfl⟩

set_option maxHeartbeats 1000000 in
theorem char_2 (s : ByteArray) (p : Nat) (w : World) (hp : p < s.size) (hs : s.size ≤ 9223372036854775800) (a : 192 ≤ (s[p].toNat : Int)) (b : (s[p].toNat : Int) < 224)
    (HB : Hid (∀ k, 1 ≤ k → k < 2 → ¬ contOk s (p + k) → Utf8.decode s p = (65533, 1)))
    (HF : Hid ((∀ j, 1 ≤ j → j < 2 → contOk s (p + j)) → (badRune (acc s p (s[p].toNat - 192) (2 - 1)) 128 → Utf8.decode s p = (65533, 1)) ∧ (¬ badRune (acc s p (s[p].toNat - 192) (2 - 1)) 128 → Utf8.decode s p = ((acc s p (s[p].toNat - 192) (2 - 1)).toNat, 2))))
    (HA : Hid (∀ k, k ≤ 3 → (∀ j, 1 ≤ j → j ≤ k → contOk s (p + j)) → 0 ≤ acc s p (s[p].toNat - 192) k ∧ acc s p (s[p].toNat - 192) k ≤ 8388608)) :
    Calls Tryz.prog 180 #[.string s, .int .i64 p] w fun e w' => ∃ r n : Int, e = .returned (.tuple #[.int .i64 r, .int .i64 n]) ∧ Hid (HandR s p r n) ∧ w = w' := by
  go_enter Tryz.func180, Tryz.ntmps180
  go_wp2
  go_loop [8, 10] (fun r i => ∃ k : Nat, 1 ≤ k ∧ k ≤ 2 ∧ i = .int .i64 k ∧ r = .int .i64 (acc s p (s[p].toNat - 192) (k - 1)) ∧ Hid (∀ j, 1 ≤ j → j < k → contOk s (p + j))) (fun _ i => 2 - (intOf i).toNat)
  case atStart => exact ⟨1, by omega, by omega, rfl, rfl, fun j h1 h2 => by omega⟩
  case round =>
    obtain ⟨k, hk1, hk2, rfl, rfl, HC⟩ := hrel
    have hbd := HA.out (k - 1) (by omega) (fun j h1 h2 => HC.out j h1 (by omega))
    have hb0 := hbd.1
    have hb1 := hbd.2
    clear hbd
    by_cases hlt : k < 2
    · by_cases hc : contOk s (p + k)
      · have c1 := hc.1
        have c2 := hc.2.1
        have c3 := hc.2.2
        have e2 := bat_get s (p + k) c1
        have HN : Hid (∀ j, 1 ≤ j → j < k + 1 → contOk s (p + j)) := fun j h1 h2 => by
          by_cases e : j = k
          · rw [e]; exact hc
          · exact HC.out j h1 (by omega)
        have HE : Hid (acc s p (s[p].toNat - 192) (k + 1 - 1) = 64 * acc s p (s[p].toNat - 192) (k - 1) + s[p + k].toNat - 128) := by
          obtain ⟨k, rfl⟩ : Exists fun m => k = m + 1 := ⟨k - 1, by omega⟩
          show acc _ _ _ (k + 1) = _
          simp only [acc, Nat.add_sub_cancel]
          rw [e2]
        rw [e2] at c2 c3
        clear e2 hc
        generalize acc s p (s[p].toNat - 192) (k - 1) = ac at *
        go_wp2
        go_round
        case rel => exact ⟨k + 1, by omega, by omega, by go_num, by rw [HE.out], HN⟩
        case measure => simp [intOf]; omega
      · have H := Lib.hid (handR_bad s p (HB.out k hk1 hlt hc))
        generalize acc s p (s[p].toNat - 192) (k - 1) = ac at *
        by_cases c1 : p + k < s.size
        · have e2 := bat_get s (p + k) c1
          have c2 : (s[p + k].toNat : Int) < 128 ∨ (128 ≤ (s[p + k].toNat : Int) ∧ 192 ≤ (s[p + k].toNat : Int)) := by
            unfold contOk at hc; rw [e2] at hc; omega
          clear e2 hc
          rcases c2 with c2 | ⟨c2, c3⟩
          all_goals
            go_wp2
            go_ret2
            exact ⟨-1, 1, rfl, H, rfl⟩
        · clear hc
          go_wp2
          go_ret2
          exact ⟨-1, 1, rfl, H, rfl⟩
    · obtain rfl : k = 2 := by omega
      have hf := HF.out HC.out
      have hf1 := Lib.hid hf.1
      have hf2 := Lib.hid hf.2
      clear hf
      generalize acc s p (s[p].toNat - 192) (2 - 1) = ac at *
      by_cases hbr : badRune ac 128
      · have H := Lib.hid (handR_bad s p (hf1.out hbr))
        clear hf1 hf2
        unfold badRune at hbr
        have hbr2 : ac < 128 ∨ (128 ≤ ac ∧ 1114111 < ac) ∨ (128 ≤ ac ∧ ac ≤ 1114111 ∧ 55296 ≤ ac ∧ ac ≤ 57343) := by omega
        clear hbr
        rcases hbr2 with h1 | ⟨h1, h2⟩ | ⟨h1, h2, h3, h4⟩
        all_goals
          go_wp2
          go_ret2
          exact ⟨-1, 1, rfl, H, rfl⟩
      · have H := Lib.hid (handR_good s p ac 2 hb0 (hf2.out hbr))
        clear hf1 hf2
        unfold badRune at hbr
        have hbr2 : 128 ≤ ac ∧ ac ≤ 1114111 ∧ (ac < 55296 ∨ (55296 ≤ ac ∧ 57343 < ac)) := by omega
        clear hbr
        obtain ⟨h1, h2, h3⟩ := hbr2
        rcases h3 with h3 | ⟨h3, h4⟩
        all_goals (first | (exfalso; omega) | (go_wp2; go_ret2; exact ⟨ac, 2, rfl, H, rfl⟩))

set_option maxHeartbeats 1000000 in
theorem char_3 (s : ByteArray) (p : Nat) (w : World) (hp : p < s.size) (hs : s.size ≤ 9223372036854775800) (a : 224 ≤ (s[p].toNat : Int)) (b : (s[p].toNat : Int) < 240)
    (HB : Hid (∀ k, 1 ≤ k → k < 3 → ¬ contOk s (p + k) → Utf8.decode s p = (65533, 1)))
    (HF : Hid ((∀ j, 1 ≤ j → j < 3 → contOk s (p + j)) → (badRune (acc s p (s[p].toNat - 224) (3 - 1)) 2048 → Utf8.decode s p = (65533, 1)) ∧ (¬ badRune (acc s p (s[p].toNat - 224) (3 - 1)) 2048 → Utf8.decode s p = ((acc s p (s[p].toNat - 224) (3 - 1)).toNat, 3))))
    (HA : Hid (∀ k, k ≤ 3 → (∀ j, 1 ≤ j → j ≤ k → contOk s (p + j)) → 0 ≤ acc s p (s[p].toNat - 224) k ∧ acc s p (s[p].toNat - 224) k ≤ 8388608)) :
    Calls Tryz.prog 180 #[.string s, .int .i64 p] w fun e w' => ∃ r n : Int, e = .returned (.tuple #[.int .i64 r, .int .i64 n]) ∧ Hid (HandR s p r n) ∧ w = w' := by
  go_enter Tryz.func180, Tryz.ntmps180
  go_wp2
  go_loop [8, 10] (fun r i => ∃ k : Nat, 1 ≤ k ∧ k ≤ 3 ∧ i = .int .i64 k ∧ r = .int .i64 (acc s p (s[p].toNat - 224) (k - 1)) ∧ Hid (∀ j, 1 ≤ j → j < k → contOk s (p + j))) (fun _ i => 3 - (intOf i).toNat)
  case atStart => exact ⟨1, by omega, by omega, rfl, rfl, fun j h1 h2 => by omega⟩
  case round =>
    obtain ⟨k, hk1, hk2, rfl, rfl, HC⟩ := hrel
    have hbd := HA.out (k - 1) (by omega) (fun j h1 h2 => HC.out j h1 (by omega))
    have hb0 := hbd.1
    have hb1 := hbd.2
    clear hbd
    by_cases hlt : k < 3
    · by_cases hc : contOk s (p + k)
      · have c1 := hc.1
        have c2 := hc.2.1
        have c3 := hc.2.2
        have e2 := bat_get s (p + k) c1
        have HN : Hid (∀ j, 1 ≤ j → j < k + 1 → contOk s (p + j)) := fun j h1 h2 => by
          by_cases e : j = k
          · rw [e]; exact hc
          · exact HC.out j h1 (by omega)
        have HE : Hid (acc s p (s[p].toNat - 224) (k + 1 - 1) = 64 * acc s p (s[p].toNat - 224) (k - 1) + s[p + k].toNat - 128) := by
          obtain ⟨k, rfl⟩ : Exists fun m => k = m + 1 := ⟨k - 1, by omega⟩
          show acc _ _ _ (k + 1) = _
          simp only [acc, Nat.add_sub_cancel]
          rw [e2]
        rw [e2] at c2 c3
        clear e2 hc
        generalize acc s p (s[p].toNat - 224) (k - 1) = ac at *
        go_wp2
        go_round
        case rel => exact ⟨k + 1, by omega, by omega, by go_num, by rw [HE.out], HN⟩
        case measure => simp [intOf]; omega
      · have H := Lib.hid (handR_bad s p (HB.out k hk1 hlt hc))
        generalize acc s p (s[p].toNat - 224) (k - 1) = ac at *
        by_cases c1 : p + k < s.size
        · have e2 := bat_get s (p + k) c1
          have c2 : (s[p + k].toNat : Int) < 128 ∨ (128 ≤ (s[p + k].toNat : Int) ∧ 192 ≤ (s[p + k].toNat : Int)) := by
            unfold contOk at hc; rw [e2] at hc; omega
          clear e2 hc
          rcases c2 with c2 | ⟨c2, c3⟩
          all_goals
            go_wp2
            go_ret2
            exact ⟨-1, 1, rfl, H, rfl⟩
        · clear hc
          go_wp2
          go_ret2
          exact ⟨-1, 1, rfl, H, rfl⟩
    · obtain rfl : k = 3 := by omega
      have hf := HF.out HC.out
      have hf1 := Lib.hid hf.1
      have hf2 := Lib.hid hf.2
      clear hf
      generalize acc s p (s[p].toNat - 224) (3 - 1) = ac at *
      by_cases hbr : badRune ac 2048
      · have H := Lib.hid (handR_bad s p (hf1.out hbr))
        clear hf1 hf2
        unfold badRune at hbr
        have hbr2 : ac < 2048 ∨ (2048 ≤ ac ∧ 1114111 < ac) ∨ (2048 ≤ ac ∧ ac ≤ 1114111 ∧ 55296 ≤ ac ∧ ac ≤ 57343) := by omega
        clear hbr
        rcases hbr2 with h1 | ⟨h1, h2⟩ | ⟨h1, h2, h3, h4⟩
        all_goals
          go_wp2
          go_ret2
          exact ⟨-1, 1, rfl, H, rfl⟩
      · have H := Lib.hid (handR_good s p ac 3 hb0 (hf2.out hbr))
        clear hf1 hf2
        unfold badRune at hbr
        have hbr2 : 2048 ≤ ac ∧ ac ≤ 1114111 ∧ (ac < 55296 ∨ (55296 ≤ ac ∧ 57343 < ac)) := by omega
        clear hbr
        obtain ⟨h1, h2, h3⟩ := hbr2
        rcases h3 with h3 | ⟨h3, h4⟩
        all_goals (first | (exfalso; omega) | (go_wp2; go_ret2; exact ⟨ac, 3, rfl, H, rfl⟩))

set_option maxHeartbeats 1000000 in
theorem char_4 (s : ByteArray) (p : Nat) (w : World) (hp : p < s.size) (hs : s.size ≤ 9223372036854775800) (a : 240 ≤ (s[p].toNat : Int)) (b : (s[p].toNat : Int) < 248)
    (HB : Hid (∀ k, 1 ≤ k → k < 4 → ¬ contOk s (p + k) → Utf8.decode s p = (65533, 1)))
    (HF : Hid ((∀ j, 1 ≤ j → j < 4 → contOk s (p + j)) → (badRune (acc s p (s[p].toNat - 240) (4 - 1)) 65536 → Utf8.decode s p = (65533, 1)) ∧ (¬ badRune (acc s p (s[p].toNat - 240) (4 - 1)) 65536 → Utf8.decode s p = ((acc s p (s[p].toNat - 240) (4 - 1)).toNat, 4))))
    (HA : Hid (∀ k, k ≤ 3 → (∀ j, 1 ≤ j → j ≤ k → contOk s (p + j)) → 0 ≤ acc s p (s[p].toNat - 240) k ∧ acc s p (s[p].toNat - 240) k ≤ 8388608)) :
    Calls Tryz.prog 180 #[.string s, .int .i64 p] w fun e w' => ∃ r n : Int, e = .returned (.tuple #[.int .i64 r, .int .i64 n]) ∧ Hid (HandR s p r n) ∧ w = w' := by
  go_enter Tryz.func180, Tryz.ntmps180
  go_wp2
  go_loop [8, 10] (fun r i => ∃ k : Nat, 1 ≤ k ∧ k ≤ 4 ∧ i = .int .i64 k ∧ r = .int .i64 (acc s p (s[p].toNat - 240) (k - 1)) ∧ Hid (∀ j, 1 ≤ j → j < k → contOk s (p + j))) (fun _ i => 4 - (intOf i).toNat)
  case atStart => exact ⟨1, by omega, by omega, rfl, rfl, fun j h1 h2 => by omega⟩
  case round =>
    obtain ⟨k, hk1, hk2, rfl, rfl, HC⟩ := hrel
    have hbd := HA.out (k - 1) (by omega) (fun j h1 h2 => HC.out j h1 (by omega))
    have hb0 := hbd.1
    have hb1 := hbd.2
    clear hbd
    by_cases hlt : k < 4
    · by_cases hc : contOk s (p + k)
      · have c1 := hc.1
        have c2 := hc.2.1
        have c3 := hc.2.2
        have e2 := bat_get s (p + k) c1
        have HN : Hid (∀ j, 1 ≤ j → j < k + 1 → contOk s (p + j)) := fun j h1 h2 => by
          by_cases e : j = k
          · rw [e]; exact hc
          · exact HC.out j h1 (by omega)
        have HE : Hid (acc s p (s[p].toNat - 240) (k + 1 - 1) = 64 * acc s p (s[p].toNat - 240) (k - 1) + s[p + k].toNat - 128) := by
          obtain ⟨k, rfl⟩ : Exists fun m => k = m + 1 := ⟨k - 1, by omega⟩
          show acc _ _ _ (k + 1) = _
          simp only [acc, Nat.add_sub_cancel]
          rw [e2]
        rw [e2] at c2 c3
        clear e2 hc
        generalize acc s p (s[p].toNat - 240) (k - 1) = ac at *
        go_wp2
        go_round
        case rel => exact ⟨k + 1, by omega, by omega, by go_num, by rw [HE.out], HN⟩
        case measure => simp [intOf]; omega
      · have H := Lib.hid (handR_bad s p (HB.out k hk1 hlt hc))
        generalize acc s p (s[p].toNat - 240) (k - 1) = ac at *
        by_cases c1 : p + k < s.size
        · have e2 := bat_get s (p + k) c1
          have c2 : (s[p + k].toNat : Int) < 128 ∨ (128 ≤ (s[p + k].toNat : Int) ∧ 192 ≤ (s[p + k].toNat : Int)) := by
            unfold contOk at hc; rw [e2] at hc; omega
          clear e2 hc
          rcases c2 with c2 | ⟨c2, c3⟩
          all_goals
            go_wp2
            go_ret2
            exact ⟨-1, 1, rfl, H, rfl⟩
        · clear hc
          go_wp2
          go_ret2
          exact ⟨-1, 1, rfl, H, rfl⟩
    · obtain rfl : k = 4 := by omega
      have hf := HF.out HC.out
      have hf1 := Lib.hid hf.1
      have hf2 := Lib.hid hf.2
      clear hf
      generalize acc s p (s[p].toNat - 240) (4 - 1) = ac at *
      by_cases hbr : badRune ac 65536
      · have H := Lib.hid (handR_bad s p (hf1.out hbr))
        clear hf1 hf2
        unfold badRune at hbr
        have hbr2 : ac < 65536 ∨ (65536 ≤ ac ∧ 1114111 < ac) ∨ (65536 ≤ ac ∧ ac ≤ 1114111 ∧ 55296 ≤ ac ∧ ac ≤ 57343) := by omega
        clear hbr
        rcases hbr2 with h1 | ⟨h1, h2⟩ | ⟨h1, h2, h3, h4⟩
        all_goals
          go_wp2
          go_ret2
          exact ⟨-1, 1, rfl, H, rfl⟩
      · have H := Lib.hid (handR_good s p ac 4 hb0 (hf2.out hbr))
        clear hf1 hf2
        unfold badRune at hbr
        have hbr2 : 65536 ≤ ac ∧ ac ≤ 1114111 ∧ (ac < 55296 ∨ (55296 ≤ ac ∧ 57343 < ac)) := by omega
        clear hbr
        obtain ⟨h1, h2, h3⟩ := hbr2
        rcases h3 with h3 | ⟨h3, h4⟩
        all_goals (first | (exfalso; omega) | (go_wp2; go_ret2; exact ⟨ac, 4, rfl, H, rfl⟩))

theorem char_any (s : ByteArray) (p : Nat) (w : World) (hp : p < s.size) (hs : s.size ≤ 9223372036854775800) : Calls Tryz.prog 180 #[.string s, .int .i64 p] w fun e w' =>
    ∃ r n : Int, e = .returned (.tuple #[.int .i64 r, .int .i64 n]) ∧ Hid (HandR s p r n) ∧ w = w' := by
  have hb := bat_get s p hp
  have hb1 := bat_lt s p
  by_cases h1 : bat s p < 128
  · have H := Lib.hid (handR_good s p (bat s p) 1 (by omega) (by rw [(dec s p hp).ascii h1]; simp))
    rw [hb] at h1 H
    clear hb hb1
    go_enter Tryz.func180, Tryz.ntmps180
    go_wp2
    go_ret2
    exact ⟨_, 1, rfl, H, rfl⟩
  by_cases h2 : bat s p < 192 ∨ 248 ≤ bat s p
  · have H := Lib.hid (handR_bad s p (dec_lone s p (by omega) h2))
    rw [hb] at h1 h2 hb1
    clear hb
    go_enter Tryz.func180, Tryz.ntmps180
    rcases h2 with h2 | h2
    all_goals
      go_wp2
      go_ret2
      exact ⟨-1, 1, rfl, H, rfl⟩
  have key : ∀ (n : Nat) (off least : Int), Lead s p n off least → (∀ k, 1 ≤ k → k < n → ¬ contOk s (p + k) → Utf8.decode s p = (65533, 1)) ∧ _ ∧ _ := fun n off least hl =>
    ⟨dec_bad s p n off least hl, dec_full s p n off least hl, acc_le s p (bat s p - off) (by rcases hl with h | h | h <;> omega) (by rcases hl with h | h | h <;> omega)⟩
  rw [hb] at key h1 h2
  by_cases h3 : bat s p < 224
  · have k := key 2 192 128 (by unfold Lead; omega)
    rw [hb] at h3
    exact char_2 s p w hp hs (by omega) (by omega) k.1 k.2.1 k.2.2
  · by_cases h4 : bat s p < 240
    · have k := key 3 224 2048 (by unfold Lead; omega)
      rw [hb] at h3 h4
      exact char_3 s p w hp hs (by omega) (by omega) k.1 k.2.1 k.2.2
    · have k := key 4 240 65536 (by unfold Lead; omega)
      rw [hb] at h3 h4
      exact char_4 s p w hp hs (by omega) (by omega) k.1 k.2.1 k.2.2

end Go.Proofs.YtamolbegmkngdaaGreatDoor
