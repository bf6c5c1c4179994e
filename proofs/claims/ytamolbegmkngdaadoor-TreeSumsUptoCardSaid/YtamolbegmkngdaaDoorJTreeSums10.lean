/- The walk of (*Tree).under. The plain sums of TreeSums. The walk of (*Tree).Weigh. The walk of the law's Below: a range over the nodes under a path. The law TreeSums, walked: at lists of nodes that are no longer than 1048576. -/
import Derived.Test.YtamolbegmkngdaaDoorJTreeSums9
import Derived.Sort.OwnSorted
import Derived.Great.BuildSlice
import Derived.Test.YtamolbegmkngdaaDoorJTreeSums7
import Derived.Test.YtamolbegmkngdaaDoorJTreeSums8
import Derived.BigQuiet
namespace Go.Proofs.YtamolbegmkngdaaDoor
open Go.RowKit Go.Sort
set_option maxHeartbeats 2000000
set_option maxRecDepth 100000

/-- An operation that leaves memory. -/
theorem dutyS_same {P : Program} {ops : Array Oper} {Q : Exit → Act → World → Prop} {a0 : Act} {i : Nat} {o : Oper} {G : (Nat → Bool) → World → Prop} {Φ : Nat → Value → Prop} (hG : ∀ d d' w, G d w → (∀ k, k ≠ i → d' k = d k) → G d' w)
    (h : ∀ d a w, G d w → Framed ops a0 a → Ahead ops (fun i v _ => Φ i v) o a w → ∃ v, (execOp a.eval o).run P w = .ok (.value v) w ∧ Φ i v) : DutyS P ops Q G Φ a0 i o := by
  intro d a w _ _ _ hGw hF hA
  obtain ⟨v, hr, hv⟩ := h d a w hGw hF hA
  refine wp_value hr ⟨v, rfl, hv, hG d _ _ hGw fun k hk => ?_⟩
  have : (k == i) = false := by simpa using hk
  rw [this, Bool.or_false]

theorem ext_grown {a b : World} (h : Ext a b) (row : Option Nat) : a.grownBy b row := ⟨h.os, h.tape, h.output, h.size, fun k hk _ => h.block k hk⟩
theorem ownBlock_at {w : World} {base e size n : Nat} {v : Value} {xs : List Value} (h : w.ownsRow base e size v n xs) (k : Nat) (hk : v.ownBlock = some k) : ∃ c, w.heap[k]? = some (.cells c e (0, 0)) := by
  rcases h.2 with ⟨rfl, _⟩ | ⟨g, cap, cur, rfl, _, hg, _⟩
  · simp [Value.ownBlock] at hk
  · simp [Value.ownBlock] at hk
    subst hk
    exact ⟨_, hg⟩

/-- A range over a map that may be nil: which names are left. -/
def RngAt (W : World) (r : Nat) (mb : Option Nat) (L : List (Key × Value)) (left : Key → Bool) : Prop :=
  match mb with
  | some b => ∃ (lf : Lit → Bool) (cnt : Nat), (∀ k, lf (.string k) = left k) ∧ W.ranges Tryd.prog 9 Rv b r L.length (kvD L) lf cnt
  | none => L = [] ∧ (∀ k, left k = false) ∧ W.heap[r]? = some (.mapIter none 0 #[] 0)
def rngLeft (mb : Option Nat) (r : Nat) (W : World) : Nat := match mb with | some b => W.rangeLeft b r | none => 0

theorem RngAt.iter {W : World} {r : Nat} {mb : Option Nat} {L : List (Key × Value)} {left : Key → Bool} (h : RngAt W r mb L left) : ∃ m s c d, W.heap[r]? = some (.mapIter m s c d) := by
  cases mb with
  | some b =>
    obtain ⟨lf, cnt, _, es, clock, since, seen, c0, _, _, _, _, hr, _⟩ := h
    exact ⟨_, _, _, _, hr⟩
  | none => exact ⟨_, _, _, _, h.2.2⟩
theorem RngAt.kept {W W' : World} {r : Nat} {mb : Option Nat} {L : List (Key × Value)} {left : Key → Bool} {row : Option Nat} (h : RngAt W r mb L left) (hg : W.grownBy W' row) (hb : ∀ b, mb = some b → some b ≠ row) (hr : some r ≠ row) : RngAt W' r mb L left ∧ rngLeft mb r W' = rngLeft mb r W := by
  cases mb with
  | some b =>
    obtain ⟨lf, cnt, h1, h2⟩ := h
    have h3 := h2.kept hg (hb b rfl) hr
    exact ⟨⟨lf, cnt, h1, h3⟩, by show W'.rangeLeft b r = W.rangeLeft b r; rw [h3.left_eq, h2.left_eq]⟩
  | none =>
    obtain ⟨h1, h2, h3⟩ := h
    exact ⟨⟨h1, h2, (hg.block r (Array.getElem?_eq_some_iff.1 h3).1 hr).trans h3⟩, rfl⟩

section
variable {ops : Array Oper} {rest : List Oper} {o : Oper} {a : Act} {Q : Exit → Act → World → Prop}
theorem run_next_none {P : Program} (w : World) (ty : TypeId) (r s c : Nat) (d : Array Nat) (h : w.heap[r]? = some (.mapIter none s d c)) : (Instr.next (.pointer (some ⟨r, 0, none⟩)) false ty).run P w = .ok (.tuple #[.bool false]) w := by
  simp only [Instr.next, getObj, Sem.run_bind, Sem.run, h, Result.andThen]
  rfl
theorem wpList_next_any (w : World) (hg : o.guard = none) (it : Operand) (hop : o.op = Op.next it false) (mb : Option Nat) (r : Nat) (L : List (Key × Value)) (left : Key → Bool)
    (hit : a.eval it = .pointer (some ⟨r, 0, none⟩)) (h : RngAt w r mb L left)
    (hDone : (∀ k, left k = false) → wpList Tryd.prog ops Q rest (a.put o.dst (.tuple #[.bool false])) w)
    (hMore : ∀ (s : ByteArray) (v : Value) (w' : World), s.size ≤ maxLen → left s.data.toList = true → mget L s.data.toList = some v → RngAt w' r mb L (fun k => left k && !(k == s.data.toList)) → rngLeft mb r w' < rngLeft mb r w →
      w.grownBy w' (some r) → w'.heap.size = w.heap.size → (Instr.entry (.pointer (some ⟨r, 0, none⟩))).run Tryd.prog w' = .ok (.tuple #[.string s, v]) w' → wpList Tryd.prog ops Q rest (a.put o.dst (.tuple #[.bool true, .string s, v])) w') :
    wpList Tryd.prog ops Q (o :: rest) a w := by
  cases mb with
  | some b =>
    obtain ⟨lf, cnt, h1, h2⟩ := h
    refine wpList_next_left w hg it hop 9 strT b r L.length L lf cnt hit h2 (fun hl => hDone fun k => by rw [← h1]; exact hl _) fun s v w' cnt' hs hls hm hrg hlt hgr hsz hen => ?_
    refine hMore s v w' hs (by rw [← h1]; exact hls) hm ⟨_, cnt', fun k => ?_, hrg⟩ ?_ hgr hsz hen
    · show (lf (.string k) && !(k == s.data.toList)) = _
      rw [h1]
    · show w'.rangeLeft b r < w.rangeLeft b r
      rw [hrg.left_eq, h2.left_eq]; exact hlt
  | none =>
    obtain ⟨h1, h2, h3⟩ := h
    refine wpList_plain hg fun K' hK' => ?_
    unfold Oper.wp
    simp [execOp, hop, hit, run_next_none w o.type r 0 0 #[] h3, Result.andThen]
    exact hK' _ _ (hDone h2)
end

/-- What the region that ranges leaves. -/
def UnG (Wr : World) (mb : Option Nat) (L : List (Key × Value)) (d : Nat → Bool) (W : World) : Prop :=
  if d 9 = true then RngAt W Wr.heap.size mb L (fun k => (mget L k).isSome) ∧ Wr.grownBy W none ∧ W.heap.size = Wr.heap.size + 1 else Ext Wr W ∧ W.heap.size = Wr.heap.size
theorem UnG.same {Wr : World} {mb : Option Nat} {L : List (Key × Value)} {i : Nat} (hi : i ≠ 9) (d d' : Nat → Bool) (w : World) (h : UnG Wr mb L d w) (hd : ∀ k, k ≠ i → d' k = d k) : UnG Wr mb L d' w := by
  unfold UnG at h ⊢
  rw [hd 9 (Ne.symm hi)]
  exact h

theorem Bfs.enter {M : List (Key × Nd)} {s : ByteArray} {l : List ByteArray} {i : Nat} {p : ByteArray} (h : Bfs M s l i (fun _ => true)) (hp : l[i]? = some p) : Bfs M s l i (fun k => (mget (kidsOf M p) k).isSome) := by
  refine ⟨h.head, h.nodup, h.mem, h.done, fun q hq x hx hc hl => ?_, fun q hq => ?_⟩
  · exfalso
    have e : p = q := Option.some.inj (hp.symm.trans hq)
    subst e
    have hm : (nameK x.2, Value.agg #[]) ∈ kidsOf M p := mem_kids.2 ⟨x, hx, hc, rfl⟩
    cases hg : mget (kidsOf M p) (nameK x.2) with
    | none => exact mget_none hg _ hm rfl
    | some v => rw [hg] at hl; cases hl
  · rcases h.back q hq with e | ⟨j, r, h1, h2, h3, h4⟩
    · exact .inl e
    · refine .inr ⟨j, r, h1, h2, h3, .inl ?_⟩
      rcases h4 with h4 | ⟨_, h4⟩
      · exact h4
      · cases h4

theorem strInfo : ∃ i, Tryd.prog.info? 9 = some i ∧ i.zero = some (.string ⟨#[]⟩) ∧ i.size = 1 ∧ i.bytes = 16 := info_parts infoStr

def UndL (M : List (Key × Nd)) (s : ByteArray) : List Key := if (mget M s.data.toList).isSome = true then undK M s else []

set_option maxHeartbeats 8000000 in
theorem under_any (S : Nat → Prop) (w : World) (bt : Nat) (M : List (Key × Nd)) (N : Nat) (hT : TreeAt S w bt M N) (hc : Clo M) (s : ByteArray) (hs : s.size ≤ maxLen) (hN : M.length * 16 ≤ 140737488355328) :
    Calls Tryd.prog 33 #[.pointer (some ⟨bt, 0, none⟩), .string s] w (SortedOut (UndL M s) w) := by
  have C1 := tget_any S w bt M N hT s hs
  have HT := Lib.hid hT
  clear hT
  go_enter Tryd.func33, Tryd.ntmps33
  go_wp2_with fail
  refine C1.mono ?_
  rintro e w1 ⟨v, rfl, hv, hE1⟩
  obtain ⟨da, dc, aa, ac, rfl, hD, hA⟩ := hv
  generalize (mget M s.data.toList).getD zeroN = n at *
  clear hD hA
  obtain ⟨W2, hW2⟩ : ∃ W2, W2 = w1.alloc (.cells (ndC n (.slice da n.data.length dc) (.slice aa n.acl.length ac)) 37) := ⟨_, rfl⟩
  have HSET := Lib.hid ((setRow_alloc w1 zeroNd (ndC n (.slice da n.data.length dc) (.slice aa n.acl.length ac)) 37).trans hW2.symm)
  have HNew := Lib.hid (heap_alloc_new w1 (.cells zeroNd 37))
  have hE2 : Ext w1 W2 := by rw [hW2]; exact Ext.alloc _ _
  have hEw2 := hE1.trans hE2
  unfold ndC at HSET ⊢
  unfold zeroNd at HSET HNew
  have HEW := Lib.hid hEw2
  clear C1 hW2 hE1 hE2 hEw2
  cases hg : mget M s.data.toList with
  | none =>
    have hfin : SortedOut (UndL M s) w (.returned (.slice none 0 0)) W2 := by
      have e : UndL M s = [] := by unfold UndL; rw [hg]; rfl
      rw [e]
      exact ⟨_, rfl, World.ownsRow_nil _ _ _ _, by simp, HEW.out⟩
    have HFIN := Lib.hid hfin
    clear hfin hg
    go_wp2_with (refine wpList_store_row rfl 37 (.tmp 5) (.tmp 16) rfl w1.heap.size _ rfl rfl 37 _ HNew.out sizeNd rfl (cells_node n da aa _ _ dc ac) ?_; rw [HSET.out])
    go_ret
    exact HFIN.out
  | some y =>
    have hM := HT.out.ok
    have hys := hM.at hg
    have hmem := mget_some_mem hg
    have hyp : y.path = s := (ba_ext hys.1).symm
    have hu : UndL M s = undK M s := by unfold UndL; rw [hg]; rfl
    have hrow0 : (W2.alloc (.cells #[.string s] 9)).ownsRow W2.heap.size 9 1 (.slice (some ⟨W2.heap.size, 0, none⟩) 1 1) 1 [.string s] := World.ownsRow_lit W2 #[.string s] 1 (Nat.le_refl _) (by unfold maxLen; decide) rfl
    have hB0 : Bfs M s [s] 0 (fun _ => true) := by have := Bfs.start hmem; simpa [hyp] using this
    have hEA : Ext w (W2.alloc (.cells #[.string s] 9)) := HEW.out.trans (Ext.alloc _ _)
    have HB0 := Lib.hid hB0
    have HR0 := Lib.hid hrow0
    have HEA := Lib.hid hEA
    have HG := Lib.hid hg
    have HU := Lib.hid hu
    have hzw := HEW.out.size
    have HM := Lib.hid hM
    have HC := Lib.hid hc
    clear hg hu hrow0 hB0 hEA hmem hys hyp hM hc
    go_wp2_with (refine wpList_store_row rfl 37 (.tmp 5) (.tmp 16) rfl w1.heap.size _ rfl rfl 37 _ HNew.out sizeNd rfl (cells_node n da aa _ _ dc ac) ?_; rw [HSET.out])
    go_loopw [7, 8] (fun lv i wr => ∃ (k : Nat) (l : List ByteArray), i = .int .i64 k ∧ k ≤ l.length ∧ Bfs M s l k (fun _ => true) ∧ wr.ownsRow W2.heap.size 9 1 lv l.length (l.map Value.string) ∧ Ext w wr) (fun _ i _ => M.length - (intOf i).toNat)
    case atStart => exact ⟨0, [s], rfl, Nat.zero_le _, HB0.out, HR0.out, HEA.out⟩
    case round =>
      obtain ⟨k, l, rfl, hkl, hB, hrow, hE⟩ := hrel
      obtain ⟨wo, hwo⟩ : ∃ x, x = wr := ⟨_, rfl⟩
      subst hwo
      have hlM := hB.length_le
      have hl64 : l.length ≤ 9223372036854775807 := by omega
      by_cases hlt : k < l.length
      · have hne : u7 ≠ .slice none 0 0 := fun e => by
          subst e
          rcases hrow.2 with ⟨_, h⟩ | ⟨_, _, _, h, _⟩
          · omega
          · cases h
        obtain ⟨g, cap, hlv, hgb, hgc⟩ : ∃ g cap, u7 = .slice (some ⟨g, 0, none⟩) l.length cap ∧ W2.heap.size ≤ g ∧ wo.cell? ⟨g, k, none⟩ = some (.string l[k]) := by
          rcases hrow.2 with ⟨h, _⟩ | ⟨g, cap, cur, h, hb, _⟩
          · exact absurd h hne
          · refine ⟨g, cap, h, hb, ?_⟩
            have := hrow.cells (g := g) (by rw [h]; rfl) k (.string l[k]) (by rw [List.getElem?_map, List.getElem?_eq_getElem hlt]; rfl)
            rw [addr_add, Nat.zero_add] at this
            exact this
        subst hlv
        have hp : l[k]? = some l[k] := List.getElem?_eq_getElem hlt
        generalize l[k] = p at hgc hp
        obtain ⟨y2, hy2, eyp, _⟩ := hB.mem p (List.mem_of_getElem? hp)
        have hpv := (vpath_facts (right_vpath (HM.out.right y2 hy2))).2.1
        rw [eyp] at hpv
        have hps : p.size ≤ maxLen := by unfold maxLen; omega
        have hTr := HT.out.ext hE
        obtain ⟨bn, bk, mb, hmS, hlook⟩ := hTr.kids_look p hps
        have hG0 : UnG wo mb (kidsOf M p) (fun _ => false) wo.drew := by
          unfold UnG
          simp only [Bool.false_eq_true, if_false]
          exact ⟨Ext.drew _, rfl⟩
        have hsame : ∀ (d : Nat → Bool) (W : World), UnG wo mb (kidsOf M p) d W → Ext wo W := fun d W h => by
          unfold UnG at h
          split at h
          · exact ⟨h.2.1.os, h.2.1.tape, h.2.1.output, h.2.1.size, fun k hk => h.2.1.block k hk (by simp)⟩
          · exact h.1
        have hcell : ∀ (d : Nat → Bool) (W : World), UnG wo mb (kidsOf M p) d W → (∀ k, S k → W.heap[k]? = wo.heap[k]?) ∧ W.cell? ⟨g, k, none⟩ = some (.string p) := fun d W h =>
          ⟨fun k hk => (hsame d W h).block k (hTr.bound k hk), ((hsame d W h).cell (p := ⟨g, k, none⟩) (World.block_lt_of_cell? _ _ hgc)).trans hgc⟩
        have HL := Lib.hid hlook
        have HG0 := Lib.hid hG0
        have HCE := Lib.hid hcell
        have HROW := Lib.hid hrow
        have HBf := Lib.hid hB
        have HE := Lib.hid hE
        have HP := Lib.hid hp
        have HMS := Lib.hid hmS
        have HY2 := Lib.hid (And.intro hy2 eyp)
        clear hlook hG0 hcell hrow hB hE hp hsame hTr hmS hgc hy2 eyp hpv
        have hkL : k < l.length := hlt
        go_wp2
        refine wp_region_P (by kernel_rfl) (region_state_vals 58 (UnG wo mb (kidsOf M p)) HG0.out [.pointer (some ⟨bt, 0, none⟩), .pointer (some ⟨bt, 0, none⟩), .pointer (some ⟨bt, 1, none⟩), .map (some bk), .slice (some ⟨g, 0, none⟩) l.length cap, .int .i64 k, .pointer (some ⟨g, k, none⟩), .string p, .map mb, .pointer (some ⟨wo.heap.size, 0, none⟩)] rfl (by decide) rfl ?duties ?rest)
        case duties =>
          refine ⟨?_, ?_, ?_, ?_, ?_, ?_, ?_, ?_, ?_, ?_, trivial⟩
          · refine dutyS_same (UnG.same (by decide)) fun d a w' hG hF hA => ?_
            have x1 := hF.slot 0 _ (by decide) rfl
            exact ⟨.pointer (some ⟨bt, 0, none⟩), by simp only [execOp, x1]; simp [go_sem], rfl⟩
          · refine dutyS_same (UnG.same (by decide)) fun d a w' hG hF hA => ?_
            have x1 := hA.val 0 28 rfl rfl ⟨⟨0, .data⟩, by simp, rfl, rfl⟩ rfl
            exact ⟨_, ex_nilCheck rfl _ x1, rfl⟩
          · refine dutyS_same (UnG.same (by decide)) fun d a w' hG hF hA => ?_
            have x1 := hA.val 1 29 rfl rfl ⟨⟨1, .data⟩, by simp, rfl, rfl⟩ rfl
            exact ⟨.pointer (some ⟨bt, 1, none⟩), by simp only [execOp, x1]; simp [go_sem], rfl⟩
          · refine dutyS_same (UnG.same (by decide)) fun d a w' hG hF hA => ?_
            have x1 := hA.val 2 30 rfl rfl ⟨⟨2, .data⟩, by simp, rfl, rfl⟩ rfl
            exact ⟨_, ex_cell rfl _ _ x1 ((HL.out w' (HCE.out d w' hG).1).1 1) rfl Tryd.underlying65, rfl⟩
          · refine dutyS_same (UnG.same (by decide)) fun d a w' hG hF hA => ?_
            have x1 := hF.slot 7 _ (by decide) rfl
            exact ⟨.slice (some ⟨g, 0, none⟩) l.length cap, by simp only [execOp, x1]; simp [go_sem], rfl⟩
          · refine dutyS_same (UnG.same (by decide)) fun d a w' hG hF hA => ?_
            have x1 := hF.slot 8 _ (by decide) rfl
            exact ⟨.int .i64 k, by simp only [execOp, x1]; simp [go_sem], rfl⟩
          · refine dutyS_same (UnG.same (by decide)) fun d a w' hG hF hA => ?_
            have x1 := hA.val 4 32 rfl rfl ⟨⟨4, .data⟩, by simp, rfl, rfl⟩ rfl
            have x2 := hA.val 5 33 rfl rfl ⟨⟨5, .data⟩, by simp, rfl, rfl⟩ rfl
            exact ⟨.pointer (some ⟨g, k, none⟩), by simp only [execOp, x1, x2]; simp [go_sem, hkL], rfl⟩
          · refine dutyS_same (UnG.same (by decide)) fun d a w' hG hF hA => ?_
            have x1 := hA.val 6 34 rfl rfl ⟨⟨6, .data⟩, by simp, rfl, rfl⟩ rfl
            exact ⟨_, ex_cell rfl _ _ x1 (HCE.out d w' hG).2 rfl strT, rfl⟩
          · refine dutyS_same (UnG.same (by decide)) fun d a w' hG hF hA => ?_
            have x1 := hA.val 3 31 rfl rfl ⟨⟨3, .data⟩, by simp, rfl, rfl⟩ rfl
            have x2 := hA.val 7 35 rfl rfl ⟨⟨7, .data⟩, by simp, rfl, rfl⟩ rfl
            have hl := (HL.out w' (HCE.out d w' hG).1).2.1
            exact ⟨.map mb, by simp only [execOp, x1, x2]; simp [go_sem, hl], rfl⟩
          · intro d a w' hdi _ _ hG hF hA
            have x1 := hA.val 8 36 rfl rfl ⟨⟨8, .data⟩, by simp, rfl, rfl⟩ rfl
            have hd : d 9 = false := hdi
            obtain ⟨_, _, hmb, hnil, _⟩ := HL.out w' (HCE.out d w' hG).1
            unfold UnG at hG
            rw [if_neg (by rw [hd]; simp)] at hG
            obtain ⟨hEe, hsz⟩ := hG
            have hone : ∃ w4, (Instr.range 75 (.map mb)).run Tryd.prog w' = .ok (.pointer (some ⟨wo.heap.size, 0, none⟩)) w4 ∧ RngAt w4 wo.heap.size mb (kidsOf M p) (fun k => (mget (kidsOf M p) k).isSome) ∧ wo.grownBy w4 none ∧ w4.heap.size = wo.heap.size + 1 := by
              have hgE : wo.grownBy w' none := ⟨hEe.os, hEe.tape, hEe.output, hEe.size, fun k hk _ => hEe.block k hk⟩
              cases hmbc : mb with
              | some b =>
                obtain ⟨w4, h1, h2, h3, h4⟩ := (show w'.ownsMap Tryd.prog 9 Rv b _ _ from hmb b hmbc).range (Maps.string_keyed strT) Tryd.underlying75
                rw [hsz] at h1 h2
                refine ⟨w4, h1, ⟨_, _, fun k => kvD_has _ k, h2⟩, ⟨h3.os.trans hgE.os, h3.tape.trans hgE.tape, h3.output.trans hgE.output, by omega, fun k hk hn => (h3.block k (by omega) hn).trans (hgE.block k hk hn)⟩, by omega⟩
              | none =>
                have h1 := run_range_nilMap (P := Tryd.prog) w' 75 9 76 Tryd.underlying75
                rw [hsz] at h1
                have h3 := hnil hmbc
                refine ⟨_, h1, ⟨h3, fun k => by rw [h3]; rfl, by rw [← hsz]; exact heap_alloc_new w' _⟩, ⟨hgE.os, hgE.tape, hgE.output, by simp; omega, fun k hk hn => (heap_alloc_old w' _ (by omega)).trans (hgE.block k hk hn)⟩, by simp [hsz]⟩
            obtain ⟨w4, h1, h2⟩ := hone
            refine wp_value (w' := w4) (v := .pointer (some ⟨wo.heap.size, 0, none⟩)) (by simp only [execOp, x1]; simp [h1, Result.andThen]) ⟨_, rfl, rfl, ?_⟩
            show UnG wo mb (kidsOf M p) (fun k => d k || k == 9) w4
            unfold UnG
            rw [if_pos (by simp)]
            exact h2
        case rest =>
          intro d W5 hdn hG5
          have h9 := hdn 9 (by decide)
          unfold UnG at hG5
          rw [if_pos h9] at hG5
          obtain ⟨hRg, hgr, hsz5⟩ := hG5
          have hzr := HROW.out.lt g rfl
          have hrow5 := HROW.out.kept hgr (.inr (by simp [Value.ownBlock]))
          have hE5 : Ext w W5 := HE.out.trans ⟨hgr.os, hgr.tape, hgr.output, hgr.size, fun k hk => hgr.block k hk (by simp)⟩
          have hB5 := HBf.out.enter HP.out
          have HRg := Lib.hid hRg
          have HROW5 := Lib.hid hrow5
          have HE5 := Lib.hid hE5
          have HB5 := Lib.hid hB5
          clear hRg hrow5 hE5 hB5 hgr h9 hdn HG0 HL HCE
          simp only [filled, List.zip_cons_cons, List.zip_nil_left, List.foldl_cons, List.foldl_nil, Act.put, List.setIfInBounds_toArray, List.set_cons_succ, List.set_cons_zero, Exit.inBlock, Exit.then]
          rename_i hK
          refine hK _ _ ?_
          clear hK
          go_wp2
          go_loopw [7] (fun lv wr2 => ∃ (l2 : List ByteArray) (left : Key → Bool), l2[k]? = some p ∧ Bfs M s l2 k left ∧ wr2.ownsRow W2.heap.size 9 1 lv l2.length (l2.map Value.string) ∧ RngAt wr2 wo.heap.size mb (kidsOf M p) left ∧ Ext w wr2) (fun _ wr2 => rngLeft mb wo.heap.size wr2)
          case atStart => exact ⟨l, _, HP.out, HB5.out, HROW5.out, HRg.out, HE5.out⟩
          case round =>
            obtain ⟨l2, left, hp2, hB2, hrow2, hRg2, hE2⟩ := hrel
            have hl2M := hB2.length_le
            have hk2 : k < l2.length := (List.getElem?_eq_some_iff.1 hp2).1
            obtain ⟨g2, cap2, hlv2, hgb2⟩ : ∃ g cap, u7 = .slice (some ⟨g, 0, none⟩) l2.length cap ∧ W2.heap.size ≤ g := by
              rcases hrow2.2 with ⟨_, h⟩ | ⟨g, cap, cur, h, hb, _⟩
              · omega
              · exact ⟨g, cap, h, hb⟩
            subst hlv2
            obtain ⟨it1, it2, it3, it4, hit⟩ := hRg2.iter
            have hgr2 : g2 ≠ wo.heap.size := fun e => by
              obtain ⟨c, hc⟩ := ownBlock_at hrow2 g2 rfl
              rw [e, hit] at hc
              cases hc
            have HRW2 := Lib.hid hrow2
            have HB2 := Lib.hid hB2
            have HP2 := Lib.hid hp2
            have HE2 := Lib.hid hE2
            clear hrow2 hB2 hp2 hE2 hit HRg HROW5 HE5 HB5 HROW HBf
            go_wp2_with (at_next; refine wpList_next_any _ rfl _ rfl mb wo.heap.size (kidsOf M p) left rfl hRg2 ?_ ?_)
            · intro hlx
              have hB3 := HB2.out.round HP2.out (fun y hy => hlx y.1)
              have HB3 := Lib.hid hB3
              clear hlx hB3 hRg2
              go_wp2
              go_roundw
              case rel => exact ⟨k + 1, l2, by go_num, by omega, HB3.out, HRW2.out, HE2.out⟩
              case measure => simp [intOf]; omega
            · intro nm nv w6 hnm hln hmg hRg6 hlt6 hg6 hsz6 hen
              obtain ⟨x, hx, hch, he⟩ := mem_kids.1 (mget_some_mem hmg)
              obtain ⟨he1, rfl⟩ := Prod.mk.inj he
              have hMo := HM.out
              have hjn := (join_child hMo hx HY2.out.1 (by rw [HY2.out.2]; exact hch) he1).2
              rw [HY2.out.2] at hjn
              have hps2 : p.size ≤ 140737488355328 := by
                have := (vpath_facts (right_vpath (hMo.right y2 HY2.out.1))).2.1
                rw [HY2.out.2] at this; omega
              have hnm2 : nm.size ≤ 140737488355328 := by
                have h1 := (path_split (right_vpath (hMo.right x hx)) (childOf_iff.1 hch).1).1
                have h2 := (vpath_facts (right_vpath (hMo.right x hx))).2.1
                have h3 := congrArg List.length h1
                rw [List.length_append] at h3
                have h4 : nm.data.toList.length = (nameB x.2.path).data.toList.length := congrArg List.length he1
                rw [← size_list] at h2 ⊢
                omega
              have CJ := join_any p nm w6 hps2 hnm2
              rw [hjn] at CJ
              have hrow6 := HRW2.out.kept hg6 (.inr (by simp [Value.ownBlock]; exact hgr2))
              have hc6 : w6.cell? ⟨g2, k, none⟩ = some (.string p) := by
                have := hrow6.cells (g := g2) rfl k (.string p) (by rw [List.getElem?_map, HP2.out]; rfl)
                rw [addr_add, Nat.zero_add] at this
                exact this
              have hE6 : Ext w w6 := HE2.out.trans' ⟨hg6.os, hg6.tape, hg6.output, hg6.size, fun i hi => hg6.block i (Nat.lt_of_lt_of_le hi HE2.out.size) (fun e => by
                have := Option.some.inj e
                have h1 := HE.out.size
                omega)⟩
              have hBs := HB2.out.step hMo HC.out HP2.out hx hch (by rw [← he1]; exact hln)
              have hxs := (vpath_facts (right_vpath (hMo.right x hx))).2.1
              rw [← he1] at hBs
              have CJ := Lib.hid CJ
              have HRW6 := Lib.hid hrow6
              have HE6 := Lib.hid hE6
              have HBS := Lib.hid hBs
              have HRG6 := Lib.hid hRg6
              have HLT6 := Lib.hid hlt6
              have hk2' : k < l2.length := hk2
              clear hjn hrow6 hE6 hBs hRg6 hlt6 hmg he hch hx hMo hRg2 hg6
              have hl3 := HBS.out.length_le
              rw [List.length_append] at hl3
              simp only [List.length_cons, List.length_nil] at hl3
              go_wp2_with fail
              refine CJ.out.mono ?_
              rintro e w7 ⟨rfl, hb7⟩
              have hE7 : Ext w6 w7 := hb7
              have hrow7 := HRW6.out.kept (ext_grown hE7 none) (.inr (by simp [Value.ownBlock]))
              have hrow8 := hrow7.alloc (.cells #[.string x.2.path] 9)
              have hs1 : Cells (w7.alloc (.cells #[.string x.2.path] 9)).heap.size (w7.alloc (.cells #[.string x.2.path] 9)) (some ⟨w7.heap.size, 0, none⟩) [.string x.2.path] := fun j u hj => by
                refine ⟨_, 0, rfl, by simp, ?_⟩
                rw [Nat.zero_add, cell_of_row _ _ _ _ _ _ (heap_alloc_new w7 _)]
                simpa using hj
              have hsrc : Src Tryd.prog 1 29 (.slice (some ⟨w7.heap.size, 0, none⟩) 1 1) 1 [.string x.2.path] (w7.alloc (.cells #[.string x.2.path] 9)) := hs1.src Tryd.underlying29 1 1 (by simp) (fun u hu => by simp at hu; subst hu; rfl)
              obtain ⟨i0, hi, hz0, hz1', hz2⟩ := strInfo
              obtain ⟨hRg7, hlt7⟩ := HRG6.out.kept (ext_grown hE7 none) (fun _ _ => by simp) (by simp)
              obtain ⟨hRg8, hlt8⟩ := hRg7.kept (World.grownBy_alloc w7 (.cells #[.string x.2.path] 9) none) (fun _ _ => by simp) (by simp)
              have hE8 : Ext w (w7.alloc (.cells #[.string x.2.path] 9)) := (HE6.out.trans hE7).trans (Ext.alloc _ _)
              have hz7 := hE7.size
              have hzE := HE6.out.size
              have hW2z := hrow8.lt g2 rfl
              have HRG8 := Lib.hid hRg8
              have HE8 := Lib.hid hE8
              have HLT8 := Lib.hid (hlt8.trans hlt7)
              clear CJ hb7 hE7 hs1 hRg7 hlt7 hRg8 hlt8 hE8 hrow7 HRG6
              go_wp2_with (at_builtin; refine wpList_append_src _ rfl (.tmp 51) (.tmp 53) 29 29 rfl W2.heap.size 9 i0 (.string ⟨#[]⟩) 1 16 Tryd.underlying29 hi hz0 hz1' hz2 rfl (by decide) _ l2.length _ rfl hrow8 _ 1 _ rfl hsrc ?c1 ?c2 ?c3 ?_)
              case c1 => unfold maxLen; omega
              case c2 => omega
              case c3 => have := hW2z.2; simp at this ⊢; omega
              intro v' w9 hown9 hg9 _ ho9
              have hbrow : ∀ b, mb = some b → some b ≠ (Value.slice (some ⟨g2, 0, none⟩) l2.length cap2).ownBlock := fun b hb e => by
                have h1 := HT.out.bound b (HMS.out b hb)
                have h2 : b = g2 := by simpa [Value.ownBlock] using e
                omega
              obtain ⟨hRg9, hlt9⟩ := HRG8.out.kept hg9 hbrow (by simp [Value.ownBlock]; exact fun e => hgr2 e.symm)
              have hE9 : Ext w w9 := HE8.out.trans' ⟨hg9.os, hg9.tape, hg9.output, hg9.size, fun i hi => hg9.block i (Nat.lt_of_lt_of_le hi HE8.out.size) (fun e => by
                have h2 : i = g2 := by simpa [Value.ownBlock] using e
                omega)⟩
              have hown9' : w9.ownsRow W2.heap.size 9 1 v' (l2 ++ [x.2.path]).length ((l2 ++ [x.2.path]).map Value.string) := by
                simpa using hown9
              have hp9 : (l2 ++ [x.2.path])[k]? = some p := by rw [List.getElem?_append_left hk2']; exact HP2.out
              have hlt : rngLeft mb wo.heap.size w9 < rngLeft mb wo.heap.size wr := by
                rw [hlt9, HLT8.out]; exact HLT6.out
              have HREL := Lib.hid (show ∃ (l2 : List ByteArray) (left : Key → Bool), l2[k]? = some p ∧ Bfs M s l2 k left ∧ w9.ownsRow W2.heap.size 9 1 v' l2.length (l2.map Value.string) ∧ RngAt w9 wo.heap.size mb (kidsOf M p) left ∧ Ext w w9 from ⟨_, _, hp9, HBS.out, hown9', hRg9, hE9⟩)
              have HLT := Lib.hid hlt
              clear hRg9 hlt9 hE9 hown9' hp9 hlt hown9 hg9 ho9 hsrc hrow8 hbrow hen
              go_wp2
              go_roundw
              case rel => exact HREL.out
              case measure => exact HLT.out
      · obtain rfl : k = l.length := by omega
        rcases hrow.2 with ⟨_, h0⟩ | ⟨g, cap, cur, rfl, hbase, hb, h1, h2, h3, h4⟩
        · have := hB.head
          rw [List.eq_nil_of_length_eq_zero h0] at this
          simp at this
        have h4' : cur.toList.take (l.map fun p => p.data.toList).length = (l.map fun p => p.data.toList).map encStr := by
          rw [List.length_map, List.map_map, ← Nat.mul_one l.length, h4]
          refine List.map_congr_left fun p _ => ?_
          simp [encStr]
        have hsrt := hB.sorted HM.out HC.out
        have CS : Calls Tryd.prog 55 #[.slice (some ⟨g, 0, none⟩) l.length cap] wo fun e w' => e = .returned (.tuple #[]) ∧ ∃ n os, w' = grow (putRow encStr (Sort.ahead wo n) g 0 ((l.map fun p => p.data.toList).mergeSort fun x y => decide (x ≤ y)).toArray) os := by
          have := AnyM.slices_Sort_string Tryd.sortS g 0 cap (l.map fun p => p.data.toList) wo (holds_of_block hb h4') (Array.getElem?_eq_some_iff.1 hb).1 (by rw [List.length_map]; omega)
          rw [List.length_map] at this
          exact this
        rw [hsrt] at CS
        have hul : (undK M s).length = (l.map fun p => p.data.toList).length := by rw [← hsrt, List.length_mergeSort]
        have hlm : (l.map fun p => p.data.toList).length = l.length := List.length_map _
        have hfin : ∀ n os, SortedOut (UndL M s) w (.returned (.slice (some ⟨g, 0, none⟩) l.length cap)) (grow (putRow encStr (Sort.ahead wo n) g 0 (undK M s).toArray) os) := fun n os => by
          rw [HU.out]
          have h5 := ownsRow_sorted (n := n) (os := os) hul hbase hb (by rw [hlm]; exact h1) h2 h3
          rw [hlm, ← hlm, ← hul] at h5
          have hpos : 0 < l.length := List.length_pos_of_mem hB.head
          have hE9 := grownBy_sorted (n := n) (os := os) (w := wo) (g := g) (undK M s).toArray
          refine ⟨_, by rw [← hlm, ← hul], ownsRow_base_a h5 (by have := HEW.out.size; omega), ⟨fun e => (by cases e), fun e => (by rw [e] at hul; rw [hlm] at hul; simp at hul; omega)⟩, hE.trans' ⟨hE9.os, hE9.tape, hE9.output, hE9.size, fun i hi => hE9.block i (Nat.lt_of_lt_of_le hi hE.size) (fun e => by
            have := Option.some.inj e
            have := HEW.out.size
            omega)⟩⟩
        have CS := Lib.hid CS
        have HFIN := Lib.hid hfin
        clear hfin hul hsrt h4' h4 hb hB hE hrow
        go_wp2_with fail
        refine CS.out.mono ?_
        rintro e w8 ⟨rfl, n, os, rfl⟩
        clear CS
        go_wp2
        go_ret
        exact HFIN.out n os
end Go.Proofs.YtamolbegmkngdaaDoor
namespace Go.Proofs.YtamolbegmkngdaaDoor
open Go.RowKit
set_option maxHeartbeats 1000000

/-- The children of a path, in order. -/
def kidN (M : List (Key × Nd)) (p : ByteArray) : List (Key × Nd) := M.filter fun c => childOf p c.2
theorem kidsOf_map (M : List (Key × Nd)) (p : ByteArray) : kidsOf M p = (kidN M p).map fun x => (nameK x.2, Value.agg #[]) := rfl
theorem kidN_length (M : List (Key × Nd)) (p : ByteArray) : (kidN M p).length = (kidsOf M p).length := by rw [kidsOf_map, List.length_map]
theorem kidN_mem {M : List (Key × Nd)} {p : ByteArray} {x : Key × Nd} : x ∈ kidN M p ↔ x ∈ M ∧ childOf p x.2 = true := by
  unfold kidN; rw [List.mem_filter]
/-- The sum behind k children. -/
def partN (M : List (Key × Nd)) (p : ByteArray) (own : Nat) (a : Nd → Nat) (k : Nat) : Nat := own + (((kidN M p).take k).map fun c => wtN M c.2.path a).sum
theorem partN_zero (M : List (Key × Nd)) (p : ByteArray) (own : Nat) (a : Nd → Nat) : partN M p own a 0 = own := by
  unfold partN; simp
theorem partN_succ {M : List (Key × Nd)} {p : ByteArray} {own : Nat} {a : Nd → Nat} {k : Nat} (hk : k < (kidN M p).length) : partN M p own a (k + 1) = partN M p own a k + wtN M (kidN M p)[k].2.path a := by
  unfold partN
  rw [List.take_succ_eq_append_getElem hk, List.map_append, List.sum_append]
  simp only [List.map_cons, List.map_nil, List.sum_cons, List.sum_nil]
  omega
theorem partN_all {M : List (Key × Nd)} (hM : MOk M) (hc : Clo M) {s : Key × Nd} (hs : s ∈ M) (a : Nd → Nat) : partN M s.2.path (a s.2) a (kidN M s.2.path).length = wtN M s.2.path a := by
  rw [wt_split hM hc hs]
  unfold partN
  rw [List.take_length]
  rfl
theorem sum_take_le (l : List Nat) (k : Nat) : (l.take k).sum ≤ l.sum := by
  induction l generalizing k with
  | nil => simp
  | cons x l ih =>
    cases k with
    | zero => simp
    | succ k => simp only [List.take_succ_cons, List.sum_cons]; have := ih k; omega
theorem partN_le {M : List (Key × Nd)} (hM : MOk M) (hc : Clo M) {s : Key × Nd} (hs : s ∈ M) (a : Nd → Nat) (k : Nat) : partN M s.2.path (a s.2) a k ≤ wtN M s.2.path a := by
  rw [← partN_all hM hc hs a]
  unfold partN
  rw [List.take_length, List.map_take]
  have := sum_take_le ((kidN M s.2.path).map fun c => wtN M c.2.path a) k
  omega
theorem wtN_one (M : List (Key × Nd)) (s : ByteArray) : wtN M s (fun _ => 1) = (undK M s).length := by
  unfold wtN undK
  rw [List.length_map]
  generalize M.filter (fun x => und x.2.path s) = l
  induction l with
  | nil => rfl
  | cons x l ih =>
    rw [List.map_cons, List.sum_cons, ih, List.length_cons, Nat.add_comm]
theorem sum_le_len {α : Type} (l : List α) (a : α → Nat) (B : Nat) (h : ∀ x ∈ l, a x ≤ B) : (l.map a).sum ≤ l.length * B := by
  induction l with
  | nil => simp
  | cons x l ih =>
    have h1 := h x (List.mem_cons_self ..)
    have h2 := ih fun y hy => h y (List.mem_cons_of_mem _ hy)
    simp only [List.map_cons, List.sum_cons, List.length_cons, Nat.add_mul]; omega
theorem wtN_le (M : List (Key × Nd)) (s : ByteArray) (a : Nd → Nat) (B : Nat) (h : ∀ x ∈ M, a x.2 ≤ B) : wtN M s a ≤ M.length * B := by
  unfold wtN
  refine Nat.le_trans (sum_le_len _ _ B fun x hx => h x (List.mem_filter.1 hx).1) ?_
  exact Nat.mul_le_mul_right _ (List.length_filter_le _ _)
theorem undK_length_le (M : List (Key × Nd)) (s : ByteArray) : (undK M s).length ≤ M.length := by
  unfold undK; rw [List.length_map]; exact List.length_filter_le _ _

/-- The bytes of the nodes at these paths. -/
def bytesK (M : List (Key × Nd)) (ks : List Key) : Nat := (ks.map fun k => ((mget M k).getD zeroN).data.length).sum
theorem bytesK_und {M : List (Key × Nd)} (hM : MOk M) (s : ByteArray) : bytesK M (undK M s) = wtN M s (fun n => n.data.length) := by
  unfold bytesK undK wtN
  rw [List.map_map]
  congr 1
  refine List.map_congr_left fun x hx => ?_
  have hx' := (List.mem_filter.1 hx).1
  show ((mget M x.1).getD zeroN).data.length = _
  rw [mget_of_mem hM.sorted (show (x.1, x.2) ∈ M from hx')]
  rfl
theorem bytesK_succ (M : List (Key × Nd)) (ks : List Key) (k : Nat) (hk : k < ks.length) : bytesK M (ks.take (k + 1)) = bytesK M (ks.take k) + ((mget M ks[k]).getD zeroN).data.length := by
  unfold bytesK
  rw [List.take_succ_eq_append_getElem hk, List.map_append, List.sum_append]
  simp
theorem data_le {M : List (Key × Nd)} (hM : MOk M) (k : Key) : ((mget M k).getD zeroN).data.length ≤ 1048575 := by
  cases hg : mget M k with
  | none => simp [zeroN]
  | some n => exact (right_fit (hM.at hg).2).2.1
theorem bytesK_le {M : List (Key × Nd)} (hM : MOk M) (ks : List Key) : bytesK M ks ≤ ks.length * 1048575 :=
  sum_le_len ks _ _ fun k _ => data_le hM k

/-- The children's paths as the law writes them. -/
theorem child_text {M : List (Key × Nd)} (hM : MOk M) {x y : Key × Nd} (hx : x ∈ M) (hy : y ∈ M) (h : childOf y.2.path x.2 = true) :
    (y.2.path.data.toList = [47] → (⟨#[47]⟩ : ByteArray) ++ ⟨(nameK x.2).toArray⟩ = x.2.path) ∧ (¬ y.2.path.data.toList = [47] → y.2.path ++ (⟨#[47]⟩ : ByteArray) ++ ⟨(nameK x.2).toArray⟩ = x.2.path) := by
  obtain ⟨c1, c2⟩ := childOf_iff.1 h
  have p1 := (path_split (right_vpath (hM.right x hx)) c1).1
  rw [c2] at p1
  have hv := right_vpath (hM.right y hy)
  constructor
  · intro hr
    apply ba_ext
    rw [p1]
    have h1 : y.2.path.size = 1 := by rw [← size_list, hr]; rfl
    unfold preL nameK
    rw [if_pos h1, hr]
    simp [ByteArray.data_append]
  · intro hr
    apply ba_ext
    rw [p1]
    have h1 : ¬ y.2.path.size = 1 := fun e => hr ((root_iff hv).1 e)
    unfold preL nameK
    rw [if_neg h1]
    simp [ByteArray.data_append]
theorem kid_get {M : List (Key × Nd)} (hM : MOk M) {p : ByteArray} {k : Nat} (hk : k < (kidN M p).length) : (kidN M p)[k] ∈ M ∧ childOf p (kidN M p)[k].2 = true := kidN_mem.1 (List.getElem_mem hk)
/-- A node is there. -/
theorem there_of {M : List (Key × Nd)} (hM : MOk M) {x : Key × Nd} (hx : x ∈ M) : mget M x.2.path.data.toList = some x.2 := by
  have hk := hM.key x hx
  have := mget_of_mem hM.sorted (show (x.1, x.2) ∈ M from hx)
  rw [hk] at this
  exact this
end Go.Proofs.YtamolbegmkngdaaDoor
namespace Go.Proofs.YtamolbegmkngdaaDoor
open Go.RowKit Go.Sort
set_option maxHeartbeats 2000000
set_option maxRecDepth 100000

theorem wpList_field {P : Program} {ops : Array Oper} {rest : List Oper} {o : Oper} {a : Act} {Q : Exit → Act → World → Prop} {w : World} (hg : o.guard = none) (ty : TypeId) (x : Operand) (i : Nat) (ho : o.op = .field ty x i) (u : Value) (hx : a.eval x = u) (v : Value)
    (hr : (Instr.field ty u i).run P w = .ok v w) (hK : wpList P ops Q rest (a.put o.dst v) w) : wpList P ops Q (o :: rest) a w :=
  wpList_plain hg fun K hK' => by
    subst hx
    unfold Oper.wp
    simp only [execOp, ho, Sem.run_bind, Sem.run_pure, Result.andThen_ok, hr]
    exact hK' _ _ hK
theorem field_data {a b c d e f g h i j k l m n o p q : Value} {w : World} : (Instr.field 37 (.agg #[a, b, c, d, e, f, g, h, i, j, k, l, m, n, o, p, q]) 1).run Tryd.prog w = .ok b w := by
  kernel_rfl

def WeighOut (M : List (Key × Nd)) (s : ByteArray) (w : World) (e : Ending) (w' : World) : Prop :=
  e = .returned (if (mget M s.data.toList).isSome = true then .tuple #[.int .i64 (undK M s).length, .int .i64 (bytesK M (undK M s)), .int .i64 0] else .tuple #[.int .i64 0, .int .i64 0, .int .i64 70]) ∧ Ext w w'

theorem UndL_none {M : List (Key × Nd)} {s : ByteArray} (h : mget M s.data.toList = none) : UndL M s = [] := by unfold UndL; rw [h]; rfl
theorem UndL_some {M : List (Key × Nd)} {s : ByteArray} {y : Nd} (h : mget M s.data.toList = some y) : UndL M s = undK M s := by unfold UndL; rw [h]; rfl
theorem und_self_mem {M : List (Key × Nd)} (hM : MOk M) {s : ByteArray} {y : Nd} (h : mget M s.data.toList = some y) : 0 < (undK M s).length := by
  have hm := mget_some_mem h
  have hp : y.path = s := (ba_ext (hM.at h).1).symm
  have : s.data.toList ∈ undK M s := by
    unfold undK
    exact List.mem_map.2 ⟨_, List.mem_filter.2 ⟨hm, by show und y.path s = true; rw [hp]; exact und_self s⟩, rfl⟩
  exact List.length_pos_of_mem this

theorem weigh_any (S : Nat → Prop) (w : World) (bt : Nat) (M : List (Key × Nd)) (N : Nat) (hT : TreeAt S w bt M N) (hc : Clo M) (s : ByteArray) (hs : s.size ≤ maxLen) (hN : M.length * 168 ≤ 140737488355328) :
    Calls Tryd.prog 11 #[.pointer (some ⟨bt, 0, none⟩), .string s] w (WeighOut M s w) := by
  have C1 := Lib.hid (under_any S w bt M N hT hc s hs (by omega))
  have HT := Lib.hid hT
  have hM := hT.ok
  clear hT
  go_enter Tryd.func11, Tryd.ntmps11
  go_wp2_with fail
  refine C1.out.mono ?_
  rintro e w1 ⟨v, rfl, hrow, hnil, hE1⟩
  clear C1
  obtain ⟨sa, sc, rfl, hcs⟩ := ownsRow_cells hrow
  cases hg : mget M s.data.toList with
  | none =>
    have hfin : WeighOut M s w (.returned (.tuple #[.int .i64 0, .int .i64 0, .int .i64 70])) w1 := ⟨by rw [hg]; rfl, hE1⟩
    have HFIN := Lib.hid hfin
    have e0 : (UndL M s).length = 0 := by rw [UndL_none hg]; rfl
    rw [e0] at *
    clear hfin hg hrow hnil hE1 hcs
    go_wp2
    go_ret3
    exact HFIN.out
  | some y =>
    have hU := UndL_some hg
    have hpos := und_self_mem hM hg
    rw [hU] at hcs
    rw [hU]
    generalize hks : undK M s = ks at *
    have hkl : ks.length ≤ M.length := by rw [← hks]; exact undK_length_le M s
    have hkey : ∀ k ∈ ks, k.length ≤ maxLen := fun k hk => by
      rw [← hks] at hk
      unfold undK at hk
      obtain ⟨x, hx, rfl⟩ := List.mem_map.1 hk
      have hxM := (List.mem_filter.1 hx).1
      have h1 := hM.key x hxM
      have h2 := (vpath_facts (right_vpath (hM.right x hxM))).2.1
      rw [h1]
      unfold keyN maxLen
      rw [size_list]; omega
    have hfin : WeighOut M s w (.returned (.tuple #[.int .i64 ks.length, .int .i64 (bytesK M ks), .int .i64 0])) w1 := ⟨by rw [hg, hks]; rfl, hE1⟩
    have HFIN := Lib.hid hfin
    have HCS := Lib.hid hcs
    have HKEY := Lib.hid hkey
    have hT1 := HT.out.ext hE1
    have HT1 := Lib.hid hT1
    have hlp : ¬ ks.length = 0 := by omega
    have hlb : ((ks.length : Int) == 0) = false := by simp; exact fun e => hlp (by rw [e]; rfl)
    have hl64 : ks.length ≤ 9223372036854775807 := by omega
    clear hfin hg hrow hnil hE1 hcs hkey hT1 hks HT hU hpos
    go_wp2
    go_loopw [8, 19] (fun sm i wr => ∃ k : Nat, k ≤ ks.length ∧ i = .int .i64 k ∧ sm = .int .i64 (bytesK M (ks.take k)) ∧ wr = w1) (fun _ i _ => ks.length - (intOf i).toNat)
    case atStart => exact ⟨0, Nat.zero_le _, rfl, rfl, rfl⟩
    case round =>
      obtain ⟨k, hk, rfl, rfl, rfl⟩ := hrel
      by_cases hlt : k < ks.length
      · obtain ⟨b, off, rfl, hb, hc⟩ := HCS.out k (encStr ks[k]) (by rw [List.getElem?_map, List.getElem?_eq_getElem hlt]; rfl)
        have hkz : (⟨ks[k].toArray⟩ : ByteArray).size ≤ maxLen := by
          have := HKEY.out ks[k] (List.getElem_mem hlt)
          rw [← size_list]; simpa using this
        obtain ⟨bn, bk, K, hd, hNd, hKd⟩ := HT1.out
        have hx := TreeAt.box hd
        obtain ⟨vv, hvv, _, hq⟩ := hNd.look' ⟨ks[k].toArray⟩ hkz
        rw [key_back] at hvv
        have hsucc := bytesK_succ M ks k hlt
        have hle1 := bytesK_le hM (ks.take k)
        have hle2 := data_le hM ks[k]
        have hln : (ks.take k).length ≤ ks.length := by simp; omega
        obtain ⟨ea, ec, fa, fc, rfl, _⟩ := hvv
        generalize (mget M ks[k]).getD zeroN = n at *
        have HSC := Lib.hid hsucc
        have hb1 : (0 : Int) ≤ (bytesK M (ks.take k) : Int) + (n.data.length : Int) := by omega
        have hb2 : (bytesK M (ks.take k) : Int) + (n.data.length : Int) < 9223372036854775808 := by omega
        unfold Box treeC at hx
        unfold ndC at hq
        clear hd hNd hKd hsucc
        go_wp2_with (refine wpList_field rfl 37 (.tmp 29) 1 rfl _ rfl (.slice ea n.data.length ec) field_data ?_)
        go_roundw
        case rel => exact ⟨k + 1, by omega, by go_num, by rw [HSC.out]; push_cast; go_num, by first | rfl | trivial⟩
        case measure => simp [intOf]; omega
      · obtain rfl : k = ks.length := by omega
        rw [List.take_length]
        go_wp2
        go_ret3
        exact HFIN.out
end Go.Proofs.YtamolbegmkngdaaDoor
namespace Go.Proofs.YtamolbegmkngdaaDoor
open Go.RowKit Go.Sort
set_option maxHeartbeats 2000000
set_option maxRecDepth 100000
attribute [local go_sem] Oper.semAt_some

/-- What Below hands back: a function that tells nodes; which: by another one. -/
def SeqB (bt x y : Nat) (w : World) (e : Ending) (w' : World) : Prop :=
  ∃ bw btb, e = .returned (.func (.func 65) #[] #[.pointer (some ⟨bw, 0, none⟩), .pointer (some ⟨btb, 0, none⟩)]) ∧
    w'.cell? ⟨bw, 0, none⟩ = some (.func (.func 58) #[] #[.pointer (some ⟨x, 0, none⟩), .pointer (some ⟨y, 0, none⟩)]) ∧ w'.cell? ⟨btb, 0, none⟩ = some (.pointer (some ⟨bt, 0, none⟩)) ∧ Ext w w'

theorem toldB_any (bt x y : Nat) (w : World) : Calls Tryd.prog 45 #[.pointer (some ⟨bt, 0, none⟩), .func (.func 58) #[] #[.pointer (some ⟨x, 0, none⟩), .pointer (some ⟨y, 0, none⟩)]] w (SeqB bt x y w) := by
  have h1 : ∀ t u, ((w.alloc (.cells #[Value.pointer (some ⟨bt, 0, none⟩)] t)).alloc (.cells #[Value.func (.func 58) #[] #[.pointer (some ⟨x, 0, none⟩), .pointer (some ⟨y, 0, none⟩)]] u)).cell? ⟨w.heap.size, 0, none⟩ = some (.pointer (some ⟨bt, 0, none⟩)) := fun t u =>
    cell_of_row _ _ _ _ _ _ ((heap_alloc_old _ _ (by simp)).trans (heap_alloc_new w _))
  have h2 : ∀ t u, ((w.alloc (.cells #[Value.pointer (some ⟨bt, 0, none⟩)] t)).alloc (.cells #[Value.func (.func 58) #[] #[.pointer (some ⟨x, 0, none⟩), .pointer (some ⟨y, 0, none⟩)]] u)).cell? ⟨w.heap.size + 1, 0, none⟩ = some (.func (.func 58) #[] #[.pointer (some ⟨x, 0, none⟩), .pointer (some ⟨y, 0, none⟩)]) := fun t u =>
    cell_of_row _ _ _ _ _ _ (by have := heap_alloc_new (w.alloc (.cells #[Value.pointer (some ⟨bt, 0, none⟩)] t)) (.cells #[Value.func (.func 58) #[] #[.pointer (some ⟨x, 0, none⟩), .pointer (some ⟨y, 0, none⟩)]] u); rwa [World.size_alloc] at this)
  have H1 := Lib.hid h1
  have H2 := Lib.hid h2
  clear h1 h2
  go_enter Tryd.func45, Tryd.ntmps45
  go_wp2
  go_ret
  exact ⟨_, _, rfl, H2.out _ _, H1.out _ _, (Ext.alloc w _).trans (Ext.alloc _ _)⟩

/-- The function, and the cells it looks at. -/
def BelOut (bt : Nat) (s : ByteArray) (w : World) (e : Ending) (w' : World) : Prop :=
  ∃ x y, SeqB bt x y w e w' ∧ w'.cell? ⟨x, 0, none⟩ = some (.pointer (some ⟨bt, 0, none⟩)) ∧ w'.cell? ⟨y, 0, none⟩ = some (.string s)

theorem tbelow_any (bt : Nat) (s : ByteArray) (w : World) : Calls Tryd.prog 34 #[.pointer (some ⟨bt, 0, none⟩), .string s] w (BelOut bt s w) := by
  have h1 : ∀ t u, ((w.alloc (.cells #[Value.pointer (some ⟨bt, 0, none⟩)] t)).alloc (.cells #[Value.string s] u)).cell? ⟨w.heap.size, 0, none⟩ = some (.pointer (some ⟨bt, 0, none⟩)) := fun t u =>
    cell_of_row _ _ _ _ _ _ ((heap_alloc_old _ _ (by simp)).trans (heap_alloc_new w _))
  have h2 : ∀ t u, ((w.alloc (.cells #[Value.pointer (some ⟨bt, 0, none⟩)] t)).alloc (.cells #[Value.string s] u)).cell? ⟨w.heap.size + 1, 0, none⟩ = some (.string s) := fun t u =>
    cell_of_row _ _ _ _ _ _ (by have := heap_alloc_new (w.alloc (.cells #[Value.pointer (some ⟨bt, 0, none⟩)] t)) (.cells #[Value.string s] u); rwa [World.size_alloc] at this)
  have H1 := Lib.hid h1
  have H2 := Lib.hid h2
  clear h1 h2
  have C1 := fun W => toldB_any bt w.heap.size (w.heap.size + 1) W
  go_enter Tryd.func34, Tryd.ntmps34
  go_wp2_with fail
  refine (C1 _).mono ?_
  rintro e w1 ⟨bw, btb, rfl, k1, k2, hE⟩
  have hfin : BelOut bt s w (.returned (.func (.func 65) #[] #[.pointer (some ⟨bw, 0, none⟩), .pointer (some ⟨btb, 0, none⟩)])) w1 :=
    ⟨w.heap.size, w.heap.size + 1, ⟨_, _, rfl, k1, k2, ((Ext.alloc w _).trans (Ext.alloc _ _)).trans hE⟩, (hE.cell (p := ⟨w.heap.size, 0, none⟩) (by simp; omega)).trans (H1.out _ _), (hE.cell (p := ⟨w.heap.size + 1, 0, none⟩) (by simp)).trans (H2.out _ _)⟩
  have HFIN := Lib.hid hfin
  clear hfin k1 k2 hE C1
  go_wp2
  go_ret
  exact HFIN.out

theorem below1_any (S : Nat → Prop) (w : World) (bt x y : Nat) (M : List (Key × Nd)) (N : Nat) (hT : TreeAt S w bt M N) (hc : Clo M) (s : ByteArray) (hs : s.size ≤ maxLen) (hN : M.length * 16 ≤ 140737488355328)
    (hx : w.cell? ⟨x, 0, none⟩ = some (.pointer (some ⟨bt, 0, none⟩))) (hy : w.cell? ⟨y, 0, none⟩ = some (.string s)) :
    Calls Tryd.prog 58 #[.pointer (some ⟨x, 0, none⟩), .pointer (some ⟨y, 0, none⟩)] w (SortedOut (UndL M s) w) := by
  have C1 := Lib.hid (under_any S w bt M N hT hc s hs hN)
  clear hT hc
  go_enter Tryd.func58, Tryd.ntmps58
  go_wp2_with fail
  refine C1.out.mono ?_
  rintro e w1 ⟨v, rfl, h1, h2, h3⟩
  have hfin : SortedOut (UndL M s) w (.returned v) w1 := ⟨v, rfl, h1, h2, h3⟩
  have HFIN := Lib.hid hfin
  clear hfin h1 h2 h3 C1 hx hy
  go_wp2
  go_ret
  exact HFIN.out

set_option maxHeartbeats 4000000 in
theorem lbelow_any (S : Nat → Prop) (w : World) (bt : Nat) (M : List (Key × Nd)) (N : Nat) (hT : TreeAt S w bt M N) (hc : Clo M) (s : ByteArray) (hs : s.size ≤ maxLen) (most : Nat) (hmost : most < maxLen) (hks : M.length * 168 ≤ 140737488355328) (hkl : ∀ k ∈ UndL M s, k.length ≤ maxLen) (hlen : (UndL M s).length ≤ M.length) :
    Calls Tryd.prog 12 #[.pointer (some ⟨bt, 0, none⟩), .string s, .int .i64 most] w (AllOut ((nodesOf M (UndL M s)).take (most + 1)) w) := by
  have HT := Lib.hid hT
  clear hT
  refine (callsIn_wide (n := 6)).1 (callsIn_of_wp_marks Tryd.func12 rfl trivial ?_)
  simp only [Tryd.ntmps12, List.size_toArray, List.length_cons, List.length_nil, Nat.reduceAdd, Nat.reduceSub, Array.replicate_succ, Array.replicate_zero, List.push_toArray, List.append_toArray, List.nil_append, List.cons_append]
  gi_wp2_with fail
  refine ⟨trivial, (callsIn_wide.2 (tbelow_any bt s _)).mono ?_⟩
  rintro e W1 ⟨cx, cy, ⟨bw, btb, rfl, hcw, hct, hE1⟩, hcx, hcy⟩
  have hbx : ((w.alloc (.cells #[.int .i64 most] 3)).alloc (.cells #[.slice none 0 0] 22)).heap[w.heap.size + 1]? = some (.cells #[.slice none 0 0] 22 (0, 0)) := by
    have := heap_alloc_new (w.alloc (.cells #[.int .i64 most] 3)) (.cells #[.slice none 0 0] 22)
    rwa [World.size_alloc] at this
  have hbm : ((w.alloc (.cells #[.int .i64 most] 3)).alloc (.cells #[.slice none 0 0] 22)).heap[w.heap.size]? = some (.cells #[.int .i64 most] 3 (0, 0)) :=
    (heap_alloc_old _ _ (by simp)).trans (heap_alloc_new w _)
  have hbx1 := (hE1.block _ (Array.getElem?_eq_some_iff.1 hbx).1).trans hbx
  have hbm1 := (hE1.block _ (Array.getElem?_eq_some_iff.1 hbm).1).trans hbm
  have hEw : Ext w W1 := ((Ext.alloc w _).trans (Ext.alloc _ _)).trans hE1
  have hz1 := hE1.size
  simp only [World.size_alloc] at hz1
  have hT1 := HT.out.ext hEw
  have hbd := HT.out.bound
  have hI0 : AllI W1.heap.size (w.heap.size + 1) w.heap.size w most [] [] (.slice none 0 0) W1 :=
    ⟨rfl, hbx1, hbm1, World.ownsRow_nil _ _ _ _, by simp, Nat.le_refl _, hEw⟩
  have hs1 : ∀ k, S k → SafeO (w.heap.size + 1) W1 k := fun k hk => ⟨by have := hbd k hk; omega, _, cell_of_row _ _ _ _ _ _ hbx1, by simp [Value.ownBlock]⟩
  have hOk := hT1.ok
  have TT := told_tells (SafeO (w.heap.size + 1)) S W1 bt M N hT1 hs1 bw btb 58 #[] #[.pointer (some ⟨cx, 0, none⟩), .pointer (some ⟨cy, 0, none⟩)] hcw hct (enters_of Tryd.func58 (by kernel_rfl) rfl) (UndL M s)
    (fun W hW => below1_any S W bt cx cy M N (hT1.ext hW) hc s hs (by omega) ((hW.cell (p := ⟨cx, 0, none⟩) (World.block_lt_of_cell? _ _ hcx)).trans hcx) ((hW.cell (p := ⟨cy, 0, none⟩) (World.block_lt_of_cell? _ _ hcy)).trans hcy)) (by omega) hkl
  have TT := Lib.hid TT
  have hnn := told_not_nil #[.pointer (some ⟨bw, 0, none⟩), .pointer (some ⟨btb, 0, none⟩)] W1
  have HI0 := Lib.hid hI0
  clear hbx hbm hbx1 hbm1 hE1 hT1 hbd hs1 hI0 hcw hct HT hEw hcx hcy
  generalize UndL M s = ks at *
  gi_wp2
  refine wpIn_tells rfl (by omega) (gf := 65) (lb := #[.pointer (some ⟨bw, 0, none⟩), .pointer (some ⟨btb, 0, none⟩)]) rfl trivial (enters_of Tryd.func65 (by kernel_rfl) rfl) TT.out (fun _ => rfl)
    (AllR (w.heap.size + 1) w.heap.size W1.heap.size w most) (AllX (w.heap.size + 1) w.heap.size W1.heap.size w most)
    (AllA fun p c => { tmps := #[.pointer (some ⟨bt, 0, none⟩), .string s, .int .i64 most, undef, undef, .pointer (some ⟨w.heap.size, 0, none⟩), .slice none 0 0, .pointer (some ⟨w.heap.size + 1, 0, none⟩), .func (.func 65) #[] #[.pointer (some ⟨bw, 0, none⟩), .pointer (some ⟨btb, 0, none⟩)], p, .pointer (some ⟨bt, 0, none⟩), .string s, .func (.func 65) #[] #[.pointer (some ⟨bw, 0, none⟩), .pointer (some ⟨btb, 0, none⟩)], .func (.func 65) #[] #[.pointer (some ⟨bw, 0, none⟩), .pointer (some ⟨btb, 0, none⟩)], .bool false, .func (.func 65) #[] #[.pointer (some ⟨bw, 0, none⟩), .pointer (some ⟨btb, 0, none⟩)], c, undef, undef, undef, undef, undef, undef, undef, undef, undef], defers := [] })
    (fun A X Y B h1 h2 h3 => keepS_turn h1 h2 h3) ?hI ?hIx (fun x X Y h1 h2 => gs_turn h1 h2) ?hAx ⟨[], _, HI0.out, Nat.zero_le _⟩ ?assign ?body ?done ?stop
  case hI =>
    rintro pre X Y ⟨vs, v, h, hl⟩ hT
    obtain ⟨h1, h2, h3⟩ := allI_turn h hT (by omega) (by omega)
    exact ⟨⟨vs, v, h1, hl⟩, h2, h3⟩
  case hIx =>
    rintro c pre X Y ⟨hc, vs, v, h, hl⟩ hT
    exact ⟨hc, vs, v, (allI_turn h hT (by omega) (by omega)).1, hl⟩
  case hAx =>
    rintro x a' X Y ⟨bl, cs, h1, h2, h3⟩ hT
    exact ⟨bl, cs, h1, hT.cells h2, h3⟩
  case assign =>
    rintro l pre ⟨xv, n⟩ W K ⟨vs, v, hI, hl⟩ hG hK
    obtain ⟨da, dc, aa, ac, e, _⟩ := hG
    dsimp only at e
    subst e
    obtain ⟨W2, hW2⟩ : ∃ W2, W2 = W.alloc (.cells (ndC n (.slice da n.data.length dc) (.slice aa n.acl.length ac)) 37) := ⟨_, rfl⟩
    have hax := hK _ W2 (by rw [hW2]; exact Ext.alloc _ _) ⟨W.heap.size, _, rfl, by rw [hW2]; exact heap_alloc_new W _, rfl⟩
    have HSET := Lib.hid ((setRow_alloc W zeroNd (ndC n (.slice da n.data.length dc) (.slice aa n.acl.length ac)) 37).trans hW2.symm)
    have HNew := Lib.hid (heap_alloc_new W (.cells zeroNd 37))
    have HAX := Lib.hid hax
    unfold ndC at HSET HAX ⊢
    unfold zeroNd at HSET HNew
    clear hK hI hW2 hax TT HI0
    gi_wp2_with (refine wpListIn_store_row (fun _ => trivial) rfl 37 (.tmp 9) (.tmp 16) rfl W.heap.size _ rfl rfl 37 _ HNew.out sizeNd rfl (cells_node n da aa _ _ dc ac) ?_; rw [HSET.out])
    exact HAX.out
  case body =>
    rintro l pre ⟨xv, n⟩ a' W hl0 _ ⟨rest, hSp⟩ ⟨vs, v, hI, hl⟩ hG ⟨bl, cs, e, hbl, rfl⟩
    dsimp only at e
    subst e
    have hG2 := hG
    obtain ⟨da, dc, aa, ac, e, _⟩ := hG
    simp only [Value.agg.injEq] at e
    subst e
    have hpl : pre.length + 1 ≤ M.length := by
      have := congrArg List.length hSp
      simp [nodesOf] at this
      omega
    have hv : W.cell? ⟨w.heap.size + 1, 0, none⟩ = some v := cell_of_row _ _ _ _ _ _ hI.box
    have hs17 : Cells (W.alloc (.cells (ndC n (.slice da n.data.length dc) (.slice aa n.acl.length ac)) 37)).heap.size (W.alloc (.cells (ndC n (.slice da n.data.length dc) (.slice aa n.acl.length ac)) 37)) (some ⟨W.heap.size, 0, none⟩) (ndC n (.slice da n.data.length dc) (.slice aa n.acl.length ac)).toList := fun j u hj => by
      refine ⟨_, 0, rfl, by simp, ?_⟩
      rw [Nat.zero_add, cell_of_row _ _ _ _ _ _ (heap_alloc_new W _)]
      simpa using hj
    have hsrc : Src Tryd.prog 17 22 (.slice (some ⟨W.heap.size, 0, none⟩) 1 1) 1 (ndC n (.slice da n.data.length dc) (.slice aa n.acl.length ac)).toList (W.alloc (.cells (ndC n (.slice da n.data.length dc) (.slice aa n.acl.length ac)) 37)) :=
      hs17.src Tryd.underlying22 1 1 (by simp [ndC]) (fun u hu => by
        have := cells_node n da aa n.data.length n.acl.length dc ac
        rw [← Array.all_toList] at this
        exact List.all_eq_true.1 this u hu)
    obtain ⟨i0, hi, hz0, hz1', hz2⟩ := info_parts infoNd
    have hownA := hI.row.alloc (.cells (ndC n (.slice da n.data.length dc) (.slice aa n.acl.length ac)) 37)
    have hszB := hI.size
    have HI := Lib.hid hI
    have HG := Lib.hid hG2
    have HBL := Lib.hid hbl
    unfold ndC at hsrc hownA HBL
    clear hs17 TT HI0 hI hG2 hbl
    gi_wp2_with (first | (refine wpListIn_load_row (fun _ => trivial) rfl 37 (.tmp 9) rfl bl rfl 37 _ (0, 0) _ HBL.out Tryd.underlying37 rfl sizeNd ?_) | (gi_at_builtin; refine wpListIn_append_src (fun _ => trivial) rfl (.tmp 17) (.tmp 19) 22 22 rfl W1.heap.size 37 i0 (.agg zeroNd) 17 168 Tryd.underlying22 hi hz0 hz1' hz2 rfl (by decide) _ pre.length _ rfl hownA _ 1 _ rfl hsrc ?c1 ?c2 ?c3 ?_))
    case c1 => unfold maxLen at *; omega
    case c2 => omega
    case c3 => first | omega | (simp; omega)
    intro v' w5 hown5 hg5 _ ho5
    rw [show [Value.string n.path, .slice da n.data.length dc, .slice aa n.acl.length ac, .int .i64 n.owner, .int .i64 n.czxid, .int .i64 n.mzxid, .int .i64 n.pzxid, .int .i64 n.azxid, .int .i64 n.qzxid, .int .i64 n.ctime, .int .i64 n.mtime, .int .i32 n.version, .int .i32 n.creates, .int .i32 n.aversion, .bool n.has, .int .i64 n.count, .int .i64 n.bytes] = (ndC n (.slice da n.data.length dc) (.slice aa n.acl.length ac)).toList from rfl] at hown5
    obtain ⟨hI6, hR6, hK6, hbo5⟩ := allI_step HI.out (by omega) (by omega) (by omega) (by omega) HG.out hown5 hg5 ho5
    obtain ⟨la, lc, rfl, _⟩ := ownsRow_from hown5
    have hv6 : (w5.setRow (w.heap.size + 1) #[.slice la (pre.length + 1) lc]).cell? ⟨w.heap.size + 1, 0, none⟩ = some (.slice la (pre.length + 1) lc) := cell_of_row _ _ _ _ _ _ hI6.box
    have hm6 : (w5.setRow (w.heap.size + 1) #[.slice la (pre.length + 1) lc]).cell? ⟨w.heap.size, 0, none⟩ = some (.int .i64 most) := cell_of_row _ _ _ _ _ _ hI6.lim
    obtain ⟨W6, hW6⟩ : ∃ W6, W6 = w5.setRow (w.heap.size + 1) #[.slice la (pre.length + 1) lc] := ⟨_, rfl⟩
    rw [← hW6] at hv6 hm6 hI6 hR6 hK6
    have HW6 := Lib.hid hW6
    have HB5 := Lib.hid hbo5
    have HI6 := Lib.hid hI6
    have HR6 := Lib.hid hR6
    have HK6 := Lib.hid hK6
    clear hW6 hbo5 hI6 hR6 hK6 hown5 hg5 ho5 hsrc hownA hv
    refine wpListIn_skipped (fun _ => trivial) rfl (fun c h => by cases h) (run_store_one 22 (.tmp 7) (.tmp 20) rfl (w.heap.size + 1) (.slice la (pre.length + 1) lc) rfl rfl rfl 22 v HB5.out infoSl) ?_
    rw [← HW6.out]
    gi_wp2
    · exact ⟨HR6.out, rfl, _, _, HI6.out, by simp; omega⟩
    · exact ⟨HR6.out, HK6.out, _, _, HI6.out, by simp; omega⟩
  case done =>
    rintro D xs W hD hS ⟨vs, v, hI, hl⟩ hK
    have hv : W.cell? ⟨w.heap.size + 1, 0, none⟩ = some v := cell_of_row _ _ _ _ _ _ hI.box
    have hfin := allOut_of (allI_turn hI (Turn.putObj (.deferred none) hD hK rfl) (by omega) (by omega)).1 (by omega) hS
    rw [← List.take_of_length_le (l := nodesOf M ks) (i := most + 1) (by rw [← hS]; simp; omega)] at hfin
    have HFIN := Lib.hid hfin
    have HK := Lib.hid hK
    clear hfin hK hI hS TT HI0
    gi_wp2
    refine ⟨by simp, .inl ⟨_, _, rfl, run_takeDeferred HK.out, ?_⟩⟩
    refine ⟨_, results_tmp rfl _ _ _, ?_⟩
    exact HFIN.out
  case stop =>
    rintro D c pre W hD ⟨rest, hS⟩ ⟨rfl, vs, v, hI, hl⟩ hK
    have hv : W.cell? ⟨w.heap.size + 1, 0, none⟩ = some v := cell_of_row _ _ _ _ _ _ hI.box
    have hfin := allOut_of (allI_turn hI (Turn.putObj (.deferred none) hD hK rfl) (by omega) (by omega)).1 (by omega) (ns := (nodesOf M ks).take (most + 1)) (by rw [← hS, List.take_append_of_le_length (by simp [hl]), List.take_of_length_le (by simp [hl])])
    have HFIN := Lib.hid hfin
    have HK := Lib.hid hK
    clear hfin hK hI hS TT HI0
    gi_wp2
    refine ⟨by simp, .inl ⟨_, _, rfl, run_takeDeferred HK.out, ?_⟩⟩
    refine ⟨_, results_tmp rfl _ _ _, ?_⟩
    exact HFIN.out
end Go.Proofs.YtamolbegmkngdaaDoor
namespace Go.Proofs.YtamolbegmkngdaaDoor
open Go.RowKit Go.Sort
set_option maxHeartbeats 4000000
set_option maxRecDepth 100000

/-- The rows that All hands back, cell by cell: the path and the data of each node. -/
theorem rows_path {M : List (Key × Nd)} {W : World} {base : Nat} {v : Value} {vs : List (Array Value)} {n : Nat} (hvl : vs.length = n) (hrow : W.ownsRow base 37 17 v n (vs.flatMap Array.toList))
    (hvn : ∀ (j : Nat) (cs : Array Value), vs[j]? = some cs → ∃ n, ((M.map (·.2)))[j]? = some n ∧ NdS (· < W.heap.size) W (.agg cs) n) :
    ∃ a c, v = .slice a n c ∧ ∀ k x, k < n → M[k]? = some x → ∃ b off dd dl, a = some ⟨b, off, none⟩ ∧ b < W.heap.size ∧ W.cell? ⟨b, off + k * 17, none⟩ = some (.string x.2.path) ∧ W.cell? ⟨b, off + k * 17 + 1, none⟩ = some (.slice dd x.2.data.length dl) := by
  obtain ⟨a, c, rfl, hc⟩ := ownsRow_cells hrow
  refine ⟨a, c, rfl, fun k x hk hx => ?_⟩
  have hvk : vs[k]? = some (vs[k]'(by omega)) := List.getElem?_eq_getElem (by omega)
  obtain ⟨n', hn', da, dc, aa, ac, e, _⟩ := hvn k _ hvk
  have hn2 : n' = x.2 := by
    rw [List.getElem?_map, hx] at hn'
    exact (Option.some.inj hn').symm
  subst hn2
  simp only [Value.agg.injEq] at e
  rw [e] at hvk
  have hv17 : ∀ y ∈ vs, y.size = 17 := fun y hy => by
    obtain ⟨i, hi, ei⟩ := List.getElem_of_mem hy
    obtain ⟨n2, _, da2, dc2, aa2, ac2, e2, _⟩ := hvn i y (by rw [List.getElem?_eq_getElem hi, ei])
    simp only [Value.agg.injEq] at e2
    rw [e2]; rfl
  have hfl := flat17 vs k _ hv17 hvk
  obtain ⟨b, off, rfl, hb, c0⟩ := hc (k * 17 + 0) _ (hfl 0 (.string x.2.path) rfl)
  obtain ⟨b', off', e1, _, c1⟩ := hc (k * 17 + 1) _ (hfl 1 (.slice da x.2.data.length dc) rfl)
  simp only [Option.some.injEq, Addr.mk.injEq, and_true] at e1
  obtain ⟨rfl, rfl⟩ := e1
  exact ⟨b, off, da, dc, rfl, hb, c0, by rw [Nat.add_assoc]; exact c1⟩

theorem weigh_there (S : Nat → Prop) (w : World) (bt : Nat) (M : List (Key × Nd)) (N : Nat) (hT : TreeAt S w bt M N) (hc : Clo M) {x : Key × Nd} (hx : x ∈ M) (hN : M.length * 168 ≤ 140737488355328) :
    Calls Tryd.prog 11 #[.pointer (some ⟨bt, 0, none⟩), .string x.2.path] w fun e w' => e = .returned (.tuple #[.int .i64 (wtN M x.2.path (fun _ => 1)), .int .i64 (wtN M x.2.path (fun n => n.data.length)), .int .i64 0]) ∧ Ext w w' := by
  have hM := hT.ok
  have hp := (vpath_facts (right_vpath (hM.right x hx))).2.1
  refine (weigh_any S w bt M N hT hc x.2.path (by unfold maxLen; omega) hN).mono fun e w' h => ?_
  obtain ⟨rfl, hE⟩ := h
  rw [there_of hM hx, wtN_one, ← bytesK_und hM]
  exact ⟨rfl, hE⟩

theorem wrap32_small (n : Nat) (h : n ≤ 1048576) : wrap32 (n : Int) = n := by
  unfold wrap32; omega

theorem stat_there (S : Nat → Prop) (w : World) (bt : Nat) (M : List (Key × Nd)) (N : Nat) (hT : TreeAt S w bt M N) {x : Key × Nd} (hx : x ∈ M) (hl : M.length ≤ 1048576) :
    Calls Tryd.prog 10 #[.pointer (some ⟨bt, 0, none⟩), .string x.2.path] w fun e w' => ∃ v0 v1 v2 v3 v4 v5 v6 v7 v8 v10, e = .returned (.tuple #[.agg #[.int .i64 v0, .int .i64 v1, .int .i64 v2, .int .i64 v3, .int .i32 v4, .int .i32 v5, .int .i32 v6, .int .i64 v7, .int .i32 v8, .int .i32 (kidN M x.2.path).length, .int .i64 v10], .int .i64 0]) ∧ Ext w w' := by
  have hM := hT.ok
  have hp := (vpath_facts (right_vpath (hM.right x hx))).2.1
  refine (tstat_any S w bt M N hT x.2.path (by unfold maxLen; omega)).mono fun e w' h => ?_
  obtain ⟨rfl, hE⟩ := h
  rw [there_of hM hx]
  have hk : (kidsOf M x.2.path).length ≤ 1048576 := by have := kids_length M x.2.path; omega
  have e : (Value.int .i32 (wrap32 ((kidsOf M x.2.path).length : Int))) = .int .i32 (kidN M x.2.path).length := by rw [wrap32_small _ hk, kidN_length]
  refine ⟨x.2.czxid, x.2.mzxid, x.2.ctime, x.2.mtime, x.2.version, wrap32 (wrap32 (2 * x.2.creates) - wrap32 ((kidsOf M x.2.path).length : Int)), x.2.aversion, x.2.owner, wrap32 (x.2.data.length : Int), x.2.pzxid, ?_, hE⟩
  rw [← e]
  rfl

theorem kids_there (S : Nat → Prop) (w : World) (bt : Nat) (M : List (Key × Nd)) (N : Nat) (hT : TreeAt S w bt M N) {x : Key × Nd} (hx : x ∈ M) (hN : M.length * 16 ≤ 140737488355328) :
    Calls Tryd.prog 9 #[.pointer (some ⟨bt, 0, none⟩), .string x.2.path] w fun e w' => ∃ a c, e = .returned (.tuple #[.slice a (kidN M x.2.path).length c, .int .i64 0]) ∧ Ext w w' ∧
      ∀ j y, (kidN M x.2.path)[j]? = some y → ∃ b off, a = some ⟨b, off, none⟩ ∧ b < w'.heap.size ∧ w'.cell? ⟨b, off + j, none⟩ = some (.string ⟨(nameK y.2).toArray⟩) := by
  have hM := hT.ok
  have hp := (vpath_facts (right_vpath (hM.right x hx))).2.1
  refine (children_any S w bt M N hT x.2.path (by unfold maxLen; omega) hN).mono fun e w' h => ?_
  obtain ⟨v, rfl, hE, hrow⟩ := h
  rw [there_of hM hx] at hrow ⊢
  simp only [Option.isSome_some, if_true] at hrow ⊢
  rw [← kidN_length] at hrow
  obtain ⟨a, c, rfl, hc⟩ := ownsRow_cells hrow
  refine ⟨a, c, rfl, hE, fun j y hy => ?_⟩
  refine hc j _ ?_
  rw [List.getElem?_map, kidsOf_map, List.getElem?_map, hy]
  rfl

theorem below_there (S : Nat → Prop) (w : World) (bt : Nat) (M : List (Key × Nd)) (N : Nat) (hT : TreeAt S w bt M N) (hc : Clo M) {x : Key × Nd} (hx : x ∈ M) (hN : M.length * 168 ≤ 140737488355328) :
    Calls Tryd.prog 12 #[.pointer (some ⟨bt, 0, none⟩), .string x.2.path, .int .i64 M.length] w fun e w' => ∃ a c, e = .returned (.slice a (wtN M x.2.path (fun _ => 1)) c) ∧ Ext w w' := by
  have hM := hT.ok
  have hp := (vpath_facts (right_vpath (hM.right x hx))).2.1
  have hU := UndL_some (there_of hM hx)
  have hlen : (UndL M x.2.path).length ≤ M.length := by rw [hU]; exact undK_length_le M _
  refine (lbelow_any S w bt M N hT hc x.2.path (by unfold maxLen; omega) M.length (by unfold maxLen; omega) hN (fun k hk => ?_) hlen).mono fun e w' h => ?_
  · rw [hU] at hk
    unfold undK at hk
    obtain ⟨y, hy, rfl⟩ := List.mem_map.1 hk
    have hyM := (List.mem_filter.1 hy).1
    have h1 := hM.key y hyM
    have h2 := (vpath_facts (right_vpath (hM.right y hyM))).2.1
    rw [h1]
    unfold keyN maxLen
    rw [size_list]; omega
  · obtain ⟨v, vs, rfl, hvl, hrow, _, hE⟩ := h
    obtain ⟨a, c, rfl, _⟩ := ownsRow_cells hrow
    have : ((nodesOf M (UndL M x.2.path)).take (M.length + 1)).length = wtN M x.2.path (fun _ => 1) := by
      rw [wtN_one, ← hU, List.length_take]
      unfold nodesOf
      rw [List.length_map]
      omega
    rw [this]
    exact ⟨a, c, rfl, hE⟩
end Go.Proofs.YtamolbegmkngdaaDoor
