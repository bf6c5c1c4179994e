/- The walk of (*Tree).under. The walks of arborref03's Name and arborref07's Kids. The walk of Put. Plain laws for TreePlays: where a path is taken out of the document's list; what a call makes of the nodes. -/
import Derived.Test.YthinpbdbhijbgaaGreatDoorJTreePlays10
import Derived.Sort.OwnSorted
import Derived.Great.BuildSlice
import Derived.Test.YthinpbdbhijbgaaGreatDoorJTreePlays9
import Derived.Test.YthinpbdbhijbgaaGreatDoorJTreePlays5
namespace Go.Proofs.YthinpbdbhijbgaaGreatDoor
open Go.RowKit Go.Sort
set_option maxHeartbeats 2000000
set_option maxRecDepth 100000

/-- An operation that leaves memory. -/
theorem dutyS_same {P : Program} {ops : Array Oper} {Q : Exit → Act → World → Prop} {a0 : Act} {i : Nat} {o : Oper} {G : (Nat → Bool) → World → Prop} {Φ : Nat → Value → Prop} (hG : ∀ d d' w, G d w → (∀ k, k ≠ i → d' k = d k) → G d' w)
    (h : ∀ d a w, G d w → Framed ops a0 a → Ahead ops (fun i v _ => Φ i v) o a w → ∃ v, (execOp a.eval o).run P w = .ok (.value v) w ∧ Φ i v) : DutyS P ops Q G Φ a0 i o := by
  intro d a w _ _ _ hGw hF hA
  obtain ⟨v, hr, hv⟩ := h d a w hGw hF hA
  refine wp_value hr ⟨v, rfl, hv, hG d _ _ hGw fun k hk => ?_⟩
  have : (k == i) = false := by simpa using hk
  rw [this, Bool.or_false]

theorem ext_grown {a b : World} (h : Ext a b) (row : Option Nat) : a.grownBy b row := ⟨h.os, h.tape, h.output, h.size, fun k hk _ => h.block k hk⟩
theorem ownBlock_at {w : World} {base e size n : Nat} {v : Value} {xs : List Value} (h : w.ownsRow base e size v n xs) (k : Nat) (hk : v.ownBlock = some k) : ∃ c, w.heap[k]? = some (.cells c e (0, 0)) := by
  rcases h.2 with ⟨rfl, _⟩ | ⟨g, cap, cur, rfl, _, hg, _⟩
  · simp [Value.ownBlock] at hk
  · simp [Value.ownBlock] at hk
    subst hk
    exact ⟨_, hg⟩

/-- A range over a map that may be nil: which names are left. -/
def RngAt (W : World) (r : Nat) (mb : Option Nat) (L : List (Key × Value)) (left : Key → Bool) : Prop :=
  match mb with
  | some b => ∃ (lf : Lit → Bool) (cnt : Nat), (∀ k, lf (.string k) = left k) ∧ W.ranges Tryz.prog 9 Rv b r L.length (kvD L) lf cnt
  | none => L = [] ∧ (∀ k, left k = false) ∧ W.heap[r]? = some (.mapIter none 0 #[] 0)
def rngLeft (mb : Option Nat) (r : Nat) (W : World) : Nat := match mb with | some b => W.rangeLeft b r | none => 0

theorem RngAt.iter {W : World} {r : Nat} {mb : Option Nat} {L : List (Key × Value)} {left : Key → Bool} (h : RngAt W r mb L left) : ∃ m s c d, W.heap[r]? = some (.mapIter m s c d) := by
  cases mb with
  | some b =>
    obtain ⟨lf, cnt, _, es, clock, since, seen, c0, _, _, _, _, hr, _⟩ := h
    exact ⟨_, _, _, _, hr⟩
  | none => exact ⟨_, _, _, _, h.2.2⟩
theorem RngAt.kept {W W' : World} {r : Nat} {mb : Option Nat} {L : List (Key × Value)} {left : Key → Bool} {row : Option Nat} (h : RngAt W r mb L left) (hg : W.grownBy W' row) (hb : ∀ b, mb = some b → some b ≠ row) (hr : some r ≠ row) : RngAt W' r mb L left ∧ rngLeft mb r W' = rngLeft mb r W := by
  cases mb with
  | some b =>
    obtain ⟨lf, cnt, h1, h2⟩ := h
    have h3 := h2.kept hg (hb b rfl) hr
    exact ⟨⟨lf, cnt, h1, h3⟩, by show W'.rangeLeft b r = W.rangeLeft b r; rw [h3.left_eq, h2.left_eq]⟩
  | none =>
    obtain ⟨h1, h2, h3⟩ := h
    exact ⟨⟨h1, h2, (hg.block r (Array.getElem?_eq_some_iff.1 h3).1 hr).trans h3⟩, rfl⟩

section
variable {ops : Array Oper} {rest : List Oper} {o : Oper} {a : Act} {Q : Exit → Act → World → Prop}
theorem run_next_none {P : Program} (w : World) (ty : TypeId) (r s c : Nat) (d : Array Nat) (h : w.heap[r]? = some (.mapIter none s d c)) : (Instr.next (.pointer (some ⟨r, 0, none⟩)) false ty).run P w = .ok (.tuple #[.bool false]) w := by
  simp only [Instr.next, getObj, Sem.run_bind, Sem.run, h, Result.andThen]
  rfl
theorem wpList_next_any (w : World) (hg : o.guard = none) (it : Operand) (hop : o.op = Op.next it false) (mb : Option Nat) (r : Nat) (L : List (Key × Value)) (left : Key → Bool)
    (hit : a.eval it = .pointer (some ⟨r, 0, none⟩)) (h : RngAt w r mb L left)
    (hDone : (∀ k, left k = false) → wpList Tryz.prog ops Q rest (a.put o.dst (.tuple #[.bool false])) w)
    (hMore : ∀ (s : ByteArray) (v : Value) (w' : World), s.size ≤ maxLen → left s.data.toList = true → mget L s.data.toList = some v → RngAt w' r mb L (fun k => left k && !(k == s.data.toList)) → rngLeft mb r w' < rngLeft mb r w →
      w.grownBy w' (some r) → w'.heap.size = w.heap.size → (Instr.entry (.pointer (some ⟨r, 0, none⟩))).run Tryz.prog w' = .ok (.tuple #[.string s, v]) w' → wpList Tryz.prog ops Q rest (a.put o.dst (.tuple #[.bool true, .string s, v])) w') :
    wpList Tryz.prog ops Q (o :: rest) a w := by
  cases mb with
  | some b =>
    obtain ⟨lf, cnt, h1, h2⟩ := h
    refine wpList_next_left w hg it hop 9 strT b r L.length L lf cnt hit h2 (fun hl => hDone fun k => by rw [← h1]; exact hl _) fun s v w' cnt' hs hls hm hrg hlt hgr hsz hen => ?_
    refine hMore s v w' hs (by rw [← h1]; exact hls) hm ⟨_, cnt', fun k => ?_, hrg⟩ ?_ hgr hsz hen
    · show (lf (.string k) && !(k == s.data.toList)) = _
      rw [h1]
    · show w'.rangeLeft b r < w.rangeLeft b r
      rw [hrg.left_eq, h2.left_eq]; exact hlt
  | none =>
    obtain ⟨h1, h2, h3⟩ := h
    refine wpList_plain hg fun K' hK' => ?_
    unfold Oper.wp
    simp [execOp, hop, hit, run_next_none w o.type r 0 0 #[] h3, Result.andThen]
    exact hK' _ _ (hDone h2)
end

/-- What the region that ranges leaves. -/
def UnG (Wr : World) (mb : Option Nat) (L : List (Key × Value)) (d : Nat → Bool) (W : World) : Prop :=
  if d 9 = true then RngAt W Wr.heap.size mb L (fun k => (mget L k).isSome) ∧ Wr.grownBy W none ∧ W.heap.size = Wr.heap.size + 1 else Ext Wr W ∧ W.heap.size = Wr.heap.size
theorem UnG.same {Wr : World} {mb : Option Nat} {L : List (Key × Value)} {i : Nat} (hi : i ≠ 9) (d d' : Nat → Bool) (w : World) (h : UnG Wr mb L d w) (hd : ∀ k, k ≠ i → d' k = d k) : UnG Wr mb L d' w := by
  unfold UnG at h ⊢
  rw [hd 9 (Ne.symm hi)]
  exact h

theorem Bfs.enter {M : List (Key × Nd)} {s : ByteArray} {l : List ByteArray} {i : Nat} {p : ByteArray} (h : Bfs M s l i (fun _ => true)) (hp : l[i]? = some p) : Bfs M s l i (fun k => (mget (kidsOf M p) k).isSome) := by
  refine ⟨h.head, h.nodup, h.mem, h.done, fun q hq x hx hc hl => ?_, fun q hq => ?_⟩
  · exfalso
    have e : p = q := Option.some.inj (hp.symm.trans hq)
    subst e
    have hm : (nameK x.2, Value.agg #[]) ∈ kidsOf M p := mem_kids.2 ⟨x, hx, hc, rfl⟩
    cases hg : mget (kidsOf M p) (nameK x.2) with
    | none => exact mget_none hg _ hm rfl
    | some v => rw [hg] at hl; cases hl
  · rcases h.back q hq with e | ⟨j, r, h1, h2, h3, h4⟩
    · exact .inl e
    · refine .inr ⟨j, r, h1, h2, h3, .inl ?_⟩
      rcases h4 with h4 | ⟨_, h4⟩
      · exact h4
      · cases h4

theorem strInfo : ∃ i, Tryz.prog.info? 9 = some i ∧ i.zero = some (.string ⟨#[]⟩) ∧ i.size = 1 ∧ i.bytes = 16 := info_parts infoStr

def UndL (M : List (Key × Nd)) (s : ByteArray) : List Key := if (mget M s.data.toList).isSome = true then undK M s else []

set_option maxHeartbeats 8000000 in
theorem under_any (S : Nat → Prop) (w : World) (bt : Nat) (M : List (Key × Nd)) (N : Nat) (hT : TreeAt S w bt M N) (hc : Clo M) (s : ByteArray) (hs : s.size ≤ maxLen) (hN : M.length * 16 ≤ 140737488355328) :
    Calls Tryz.prog 149 #[.pointer (some ⟨bt, 0, none⟩), .string s] w (SortedOut (UndL M s) w) := by
  have C1 := tget_any S w bt M N hT s hs
  have HT := Lib.hid hT
  clear hT
  go_enter Tryz.func149, Tryz.ntmps149
  go_wp2_with fail
  refine C1.mono ?_
  rintro e w1 ⟨v, rfl, hv, hE1⟩
  obtain ⟨da, dc, aa, ac, rfl, hD, hA⟩ := hv
  generalize (mget M s.data.toList).getD zeroN = n at *
  clear hD hA
  obtain ⟨W2, hW2⟩ : ∃ W2, W2 = w1.alloc (.cells (ndC n (.slice da n.data.length dc) (.slice aa n.acl.length ac)) 44) := ⟨_, rfl⟩
  have HSET := Lib.hid ((setRow_alloc w1 zeroNd (ndC n (.slice da n.data.length dc) (.slice aa n.acl.length ac)) 44).trans hW2.symm)
  have HNew := Lib.hid (heap_alloc_new w1 (.cells zeroNd 44))
  have hE2 : Ext w1 W2 := by rw [hW2]; exact Ext.alloc _ _
  have hEw2 := hE1.trans hE2
  unfold ndC at HSET ⊢
  unfold zeroNd at HSET HNew
  have HEW := Lib.hid hEw2
  clear C1 hW2 hE1 hE2 hEw2
  cases hg : mget M s.data.toList with
  | none =>
    have hfin : SortedOut (UndL M s) w (.returned (.slice none 0 0)) W2 := by
      have e : UndL M s = [] := by unfold UndL; rw [hg]; rfl
      rw [e]
      exact ⟨_, rfl, World.ownsRow_nil _ _ _ _, by simp, HEW.out⟩
    have HFIN := Lib.hid hfin
    clear hfin hg
    go_wp2_with (refine wpList_store_row rfl 44 (.tmp 5) (.tmp 16) rfl w1.heap.size _ rfl rfl 44 _ HNew.out sizeNd rfl (cells_node n da aa _ _ dc ac) ?_; rw [HSET.out])
    go_ret
    exact HFIN.out
  | some y =>
    have hM := HT.out.ok
    have hys := hM.at hg
    have hmem := mget_some_mem hg
    have hyp : y.path = s := (ba_ext hys.1).symm
    have hu : UndL M s = undK M s := by unfold UndL; rw [hg]; rfl
    have hrow0 : (W2.alloc (.cells #[.string s] 9)).ownsRow W2.heap.size 9 1 (.slice (some ⟨W2.heap.size, 0, none⟩) 1 1) 1 [.string s] := World.ownsRow_lit W2 #[.string s] 1 (Nat.le_refl _) (by unfold maxLen; decide) rfl
    have hB0 : Bfs M s [s] 0 (fun _ => true) := by have := Bfs.start hmem; simpa [hyp] using this
    have hEA : Ext w (W2.alloc (.cells #[.string s] 9)) := HEW.out.trans (Ext.alloc _ _)
    have HB0 := Lib.hid hB0
    have HR0 := Lib.hid hrow0
    have HEA := Lib.hid hEA
    have HG := Lib.hid hg
    have HU := Lib.hid hu
    have hzw := HEW.out.size
    have HM := Lib.hid hM
    have HC := Lib.hid hc
    clear hg hu hrow0 hB0 hEA hmem hys hyp hM hc
    go_wp2_with (refine wpList_store_row rfl 44 (.tmp 5) (.tmp 16) rfl w1.heap.size _ rfl rfl 44 _ HNew.out sizeNd rfl (cells_node n da aa _ _ dc ac) ?_; rw [HSET.out])
    go_loopw [7, 8] (fun lv i wr => ∃ (k : Nat) (l : List ByteArray), i = .int .i64 k ∧ k ≤ l.length ∧ Bfs M s l k (fun _ => true) ∧ wr.ownsRow W2.heap.size 9 1 lv l.length (l.map Value.string) ∧ Ext w wr) (fun _ i _ => M.length - (intOf i).toNat)
    case atStart => exact ⟨0, [s], rfl, Nat.zero_le _, HB0.out, HR0.out, HEA.out⟩
    case round =>
      obtain ⟨k, l, rfl, hkl, hB, hrow, hE⟩ := hrel
      obtain ⟨wo, hwo⟩ : ∃ x, x = wr := ⟨_, rfl⟩
      subst hwo
      have hlM := hB.length_le
      have hl64 : l.length ≤ 9223372036854775807 := by omega
      by_cases hlt : k < l.length
      · have hne : u7 ≠ .slice none 0 0 := fun e => by
          subst e
          rcases hrow.2 with ⟨_, h⟩ | ⟨_, _, _, h, _⟩
          · omega
          · cases h
        obtain ⟨g, cap, hlv, hgb, hgc⟩ : ∃ g cap, u7 = .slice (some ⟨g, 0, none⟩) l.length cap ∧ W2.heap.size ≤ g ∧ wo.cell? ⟨g, k, none⟩ = some (.string l[k]) := by
          rcases hrow.2 with ⟨h, _⟩ | ⟨g, cap, cur, h, hb, _⟩
          · exact absurd h hne
          · refine ⟨g, cap, h, hb, ?_⟩
            have := hrow.cells (g := g) (by rw [h]; rfl) k (.string l[k]) (by rw [List.getElem?_map, List.getElem?_eq_getElem hlt]; rfl)
            rw [addr_add, Nat.zero_add] at this
            exact this
        subst hlv
        have hp : l[k]? = some l[k] := List.getElem?_eq_getElem hlt
        generalize l[k] = p at hgc hp
        obtain ⟨y2, hy2, eyp, _⟩ := hB.mem p (List.mem_of_getElem? hp)
        have hpv := (vpath_facts (right_vpath (HM.out.right y2 hy2))).2.1
        rw [eyp] at hpv
        have hps : p.size ≤ maxLen := by unfold maxLen; omega
        have hTr := HT.out.ext hE
        obtain ⟨bn, bk, mb, hmS, hlook⟩ := hTr.kids_look p hps
        have hG0 : UnG wo mb (kidsOf M p) (fun _ => false) wo.drew := by
          unfold UnG
          simp only [Bool.false_eq_true, if_false]
          exact ⟨Ext.drew _, rfl⟩
        have hsame : ∀ (d : Nat → Bool) (W : World), UnG wo mb (kidsOf M p) d W → Ext wo W := fun d W h => by
          unfold UnG at h
          split at h
          · exact ⟨h.2.1.os, h.2.1.tape, h.2.1.output, h.2.1.size, fun k hk => h.2.1.block k hk (by simp)⟩
          · exact h.1
        have hcell : ∀ (d : Nat → Bool) (W : World), UnG wo mb (kidsOf M p) d W → (∀ k, S k → W.heap[k]? = wo.heap[k]?) ∧ W.cell? ⟨g, k, none⟩ = some (.string p) := fun d W h =>
          ⟨fun k hk => (hsame d W h).block k (hTr.bound k hk), ((hsame d W h).cell (p := ⟨g, k, none⟩) (World.block_lt_of_cell? _ _ hgc)).trans hgc⟩
        have HL := Lib.hid hlook
        have HG0 := Lib.hid hG0
        have HCE := Lib.hid hcell
        have HROW := Lib.hid hrow
        have HBf := Lib.hid hB
        have HE := Lib.hid hE
        have HP := Lib.hid hp
        have HMS := Lib.hid hmS
        have HY2 := Lib.hid (And.intro hy2 eyp)
        clear hlook hG0 hcell hrow hB hE hp hsame hTr hmS hgc hy2 eyp hpv
        have hkL : k < l.length := hlt
        go_wp2
        refine wp_region_P (by kernel_rfl) (region_state_vals 58 (UnG wo mb (kidsOf M p)) HG0.out [.pointer (some ⟨bt, 0, none⟩), .pointer (some ⟨bt, 0, none⟩), .pointer (some ⟨bt, 1, none⟩), .map (some bk), .slice (some ⟨g, 0, none⟩) l.length cap, .int .i64 k, .pointer (some ⟨g, k, none⟩), .string p, .map mb, .pointer (some ⟨wo.heap.size, 0, none⟩)] rfl (by decide) rfl ?duties ?rest)
        case duties =>
          refine ⟨?_, ?_, ?_, ?_, ?_, ?_, ?_, ?_, ?_, ?_, trivial⟩
          · refine dutyS_same (UnG.same (by decide)) fun d a w' hG hF hA => ?_
            have x1 := hF.slot 0 _ (by decide) rfl
            exact ⟨.pointer (some ⟨bt, 0, none⟩), by simp only [execOp, x1]; simp [go_sem], rfl⟩
          · refine dutyS_same (UnG.same (by decide)) fun d a w' hG hF hA => ?_
            have x1 := hA.val 0 28 rfl rfl ⟨⟨0, .data⟩, by simp, rfl, rfl⟩ rfl
            exact ⟨_, ex_nilCheck rfl _ x1, rfl⟩
          · refine dutyS_same (UnG.same (by decide)) fun d a w' hG hF hA => ?_
            have x1 := hA.val 1 29 rfl rfl ⟨⟨1, .data⟩, by simp, rfl, rfl⟩ rfl
            exact ⟨.pointer (some ⟨bt, 1, none⟩), by simp only [execOp, x1]; simp [go_sem], rfl⟩
          · refine dutyS_same (UnG.same (by decide)) fun d a w' hG hF hA => ?_
            have x1 := hA.val 2 30 rfl rfl ⟨⟨2, .data⟩, by simp, rfl, rfl⟩ rfl
            exact ⟨_, ex_cell rfl _ _ x1 ((HL.out w' (HCE.out d w' hG).1).1 1) rfl Tryz.underlying121, rfl⟩
          · refine dutyS_same (UnG.same (by decide)) fun d a w' hG hF hA => ?_
            have x1 := hF.slot 7 _ (by decide) rfl
            exact ⟨.slice (some ⟨g, 0, none⟩) l.length cap, by simp only [execOp, x1]; simp [go_sem], rfl⟩
          · refine dutyS_same (UnG.same (by decide)) fun d a w' hG hF hA => ?_
            have x1 := hF.slot 8 _ (by decide) rfl
            exact ⟨.int .i64 k, by simp only [execOp, x1]; simp [go_sem], rfl⟩
          · refine dutyS_same (UnG.same (by decide)) fun d a w' hG hF hA => ?_
            have x1 := hA.val 4 32 rfl rfl ⟨⟨4, .data⟩, by simp, rfl, rfl⟩ rfl
            have x2 := hA.val 5 33 rfl rfl ⟨⟨5, .data⟩, by simp, rfl, rfl⟩ rfl
            exact ⟨.pointer (some ⟨g, k, none⟩), by simp only [execOp, x1, x2]; simp [go_sem, hkL], rfl⟩
          · refine dutyS_same (UnG.same (by decide)) fun d a w' hG hF hA => ?_
            have x1 := hA.val 6 34 rfl rfl ⟨⟨6, .data⟩, by simp, rfl, rfl⟩ rfl
            exact ⟨_, ex_cell rfl _ _ x1 (HCE.out d w' hG).2 rfl strT, rfl⟩
          · refine dutyS_same (UnG.same (by decide)) fun d a w' hG hF hA => ?_
            have x1 := hA.val 3 31 rfl rfl ⟨⟨3, .data⟩, by simp, rfl, rfl⟩ rfl
            have x2 := hA.val 7 35 rfl rfl ⟨⟨7, .data⟩, by simp, rfl, rfl⟩ rfl
            have hl := (HL.out w' (HCE.out d w' hG).1).2.1
            exact ⟨.map mb, by simp only [execOp, x1, x2]; simp [go_sem, hl], rfl⟩
          · intro d a w' hdi _ _ hG hF hA
            have x1 := hA.val 8 36 rfl rfl ⟨⟨8, .data⟩, by simp, rfl, rfl⟩ rfl
            have hd : d 9 = false := hdi
            obtain ⟨_, _, hmb, hnil, _⟩ := HL.out w' (HCE.out d w' hG).1
            unfold UnG at hG
            rw [if_neg (by rw [hd]; simp)] at hG
            obtain ⟨hEe, hsz⟩ := hG
            have hone : ∃ w4, (Instr.range 157 (.map mb)).run Tryz.prog w' = .ok (.pointer (some ⟨wo.heap.size, 0, none⟩)) w4 ∧ RngAt w4 wo.heap.size mb (kidsOf M p) (fun k => (mget (kidsOf M p) k).isSome) ∧ wo.grownBy w4 none ∧ w4.heap.size = wo.heap.size + 1 := by
              have hgE : wo.grownBy w' none := ⟨hEe.os, hEe.tape, hEe.output, hEe.size, fun k hk _ => hEe.block k hk⟩
              cases hmbc : mb with
              | some b =>
                obtain ⟨w4, h1, h2, h3, h4⟩ := (show w'.ownsMap Tryz.prog 9 Rv b _ _ from hmb b hmbc).range (Maps.string_keyed strT) Tryz.underlying157
                rw [hsz] at h1 h2
                refine ⟨w4, h1, ⟨_, _, fun k => kvD_has _ k, h2⟩, ⟨h3.os.trans hgE.os, h3.tape.trans hgE.tape, h3.output.trans hgE.output, by omega, fun k hk hn => (h3.block k (by omega) hn).trans (hgE.block k hk hn)⟩, by omega⟩
              | none =>
                have h1 := run_range_nilMap (P := Tryz.prog) w' 157 9 205 Tryz.underlying157
                rw [hsz] at h1
                have h3 := hnil hmbc
                refine ⟨_, h1, ⟨h3, fun k => by rw [h3]; rfl, by rw [← hsz]; exact heap_alloc_new w' _⟩, ⟨hgE.os, hgE.tape, hgE.output, by simp; omega, fun k hk hn => (heap_alloc_old w' _ (by omega)).trans (hgE.block k hk hn)⟩, by simp [hsz]⟩
            obtain ⟨w4, h1, h2⟩ := hone
            refine wp_value (w' := w4) (v := .pointer (some ⟨wo.heap.size, 0, none⟩)) (by simp only [execOp, x1]; simp [h1, Result.andThen]) ⟨_, rfl, rfl, ?_⟩
            show UnG wo mb (kidsOf M p) (fun k => d k || k == 9) w4
            unfold UnG
            rw [if_pos (by simp)]
            exact h2
        case rest =>
          intro d W5 hdn hG5
          have h9 := hdn 9 (by decide)
          unfold UnG at hG5
          rw [if_pos h9] at hG5
          obtain ⟨hRg, hgr, hsz5⟩ := hG5
          have hzr := HROW.out.lt g rfl
          have hrow5 := HROW.out.kept hgr (.inr (by simp [Value.ownBlock]))
          have hE5 : Ext w W5 := HE.out.trans ⟨hgr.os, hgr.tape, hgr.output, hgr.size, fun k hk => hgr.block k hk (by simp)⟩
          have hB5 := HBf.out.enter HP.out
          have HRg := Lib.hid hRg
          have HROW5 := Lib.hid hrow5
          have HE5 := Lib.hid hE5
          have HB5 := Lib.hid hB5
          clear hRg hrow5 hE5 hB5 hgr h9 hdn HG0 HL HCE
          simp only [filled, List.zip_cons_cons, List.zip_nil_left, List.foldl_cons, List.foldl_nil, Act.put, List.setIfInBounds_toArray, List.set_cons_succ, List.set_cons_zero, Exit.inBlock, Exit.then]
          rename_i hK
          refine hK _ _ ?_
          clear hK
          go_wp2
          go_loopw [7] (fun lv wr2 => ∃ (l2 : List ByteArray) (left : Key → Bool), l2[k]? = some p ∧ Bfs M s l2 k left ∧ wr2.ownsRow W2.heap.size 9 1 lv l2.length (l2.map Value.string) ∧ RngAt wr2 wo.heap.size mb (kidsOf M p) left ∧ Ext w wr2) (fun _ wr2 => rngLeft mb wo.heap.size wr2)
          case atStart => exact ⟨l, _, HP.out, HB5.out, HROW5.out, HRg.out, HE5.out⟩
          case round =>
            obtain ⟨l2, left, hp2, hB2, hrow2, hRg2, hE2⟩ := hrel
            have hl2M := hB2.length_le
            have hk2 : k < l2.length := (List.getElem?_eq_some_iff.1 hp2).1
            obtain ⟨g2, cap2, hlv2, hgb2⟩ : ∃ g cap, u7 = .slice (some ⟨g, 0, none⟩) l2.length cap ∧ W2.heap.size ≤ g := by
              rcases hrow2.2 with ⟨_, h⟩ | ⟨g, cap, cur, h, hb, _⟩
              · omega
              · exact ⟨g, cap, h, hb⟩
            subst hlv2
            obtain ⟨it1, it2, it3, it4, hit⟩ := hRg2.iter
            have hgr2 : g2 ≠ wo.heap.size := fun e => by
              obtain ⟨c, hc⟩ := ownBlock_at hrow2 g2 rfl
              rw [e, hit] at hc
              cases hc
            have HRW2 := Lib.hid hrow2
            have HB2 := Lib.hid hB2
            have HP2 := Lib.hid hp2
            have HE2 := Lib.hid hE2
            clear hrow2 hB2 hp2 hE2 hit HRg HROW5 HE5 HB5 HROW HBf
            go_wp2_with (at_next; refine wpList_next_any _ rfl _ rfl mb wo.heap.size (kidsOf M p) left rfl hRg2 ?_ ?_)
            · intro hlx
              have hB3 := HB2.out.round HP2.out (fun y hy => hlx y.1)
              have HB3 := Lib.hid hB3
              clear hlx hB3 hRg2
              go_wp2
              go_roundw
              case rel => exact ⟨k + 1, l2, by go_num, by omega, HB3.out, HRW2.out, HE2.out⟩
              case measure => simp [intOf]; omega
            · intro nm nv w6 hnm hln hmg hRg6 hlt6 hg6 hsz6 hen
              obtain ⟨x, hx, hch, he⟩ := mem_kids.1 (mget_some_mem hmg)
              obtain ⟨he1, rfl⟩ := Prod.mk.inj he
              have hMo := HM.out
              have hjn := (join_child hMo hx HY2.out.1 (by rw [HY2.out.2]; exact hch) he1).2
              rw [HY2.out.2] at hjn
              have hps2 : p.size ≤ 140737488355328 := by
                have := (vpath_facts (right_vpath (hMo.right y2 HY2.out.1))).2.1
                rw [HY2.out.2] at this; omega
              have hnm2 : nm.size ≤ 140737488355328 := by
                have h1 := (path_split (right_vpath (hMo.right x hx)) (childOf_iff.1 hch).1).1
                have h2 := (vpath_facts (right_vpath (hMo.right x hx))).2.1
                have h3 := congrArg List.length h1
                rw [List.length_append] at h3
                have h4 : nm.data.toList.length = (nameB x.2.path).data.toList.length := congrArg List.length he1
                rw [← size_list] at h2 ⊢
                omega
              have CJ := join_any p nm w6 hps2 hnm2
              rw [hjn] at CJ
              have hrow6 := HRW2.out.kept hg6 (.inr (by simp [Value.ownBlock]; exact hgr2))
              have hc6 : w6.cell? ⟨g2, k, none⟩ = some (.string p) := by
                have := hrow6.cells (g := g2) rfl k (.string p) (by rw [List.getElem?_map, HP2.out]; rfl)
                rw [addr_add, Nat.zero_add] at this
                exact this
              have hE6 : Ext w w6 := HE2.out.trans' ⟨hg6.os, hg6.tape, hg6.output, hg6.size, fun i hi => hg6.block i (Nat.lt_of_lt_of_le hi HE2.out.size) (fun e => by
                have := Option.some.inj e
                have h1 := HE.out.size
                omega)⟩
              have hBs := HB2.out.step hMo HC.out HP2.out hx hch (by rw [← he1]; exact hln)
              have hxs := (vpath_facts (right_vpath (hMo.right x hx))).2.1
              rw [← he1] at hBs
              have CJ := Lib.hid CJ
              have HRW6 := Lib.hid hrow6
              have HE6 := Lib.hid hE6
              have HBS := Lib.hid hBs
              have HRG6 := Lib.hid hRg6
              have HLT6 := Lib.hid hlt6
              have hk2' : k < l2.length := hk2
              clear hjn hrow6 hE6 hBs hRg6 hlt6 hmg he hch hx hMo hRg2 hg6
              have hl3 := HBS.out.length_le
              rw [List.length_append] at hl3
              simp only [List.length_cons, List.length_nil] at hl3
              go_wp2_with fail
              refine CJ.out.mono ?_
              rintro e w7 ⟨rfl, hb7⟩
              have hE7 : Ext w6 w7 := hb7
              have hrow7 := HRW6.out.kept (ext_grown hE7 none) (.inr (by simp [Value.ownBlock]))
              have hrow8 := hrow7.alloc (.cells #[.string x.2.path] 9)
              have hs1 : Cells (w7.alloc (.cells #[.string x.2.path] 9)).heap.size (w7.alloc (.cells #[.string x.2.path] 9)) (some ⟨w7.heap.size, 0, none⟩) [.string x.2.path] := fun j u hj => by
                refine ⟨_, 0, rfl, by simp, ?_⟩
                rw [Nat.zero_add, cell_of_row _ _ _ _ _ _ (heap_alloc_new w7 _)]
                simpa using hj
              have hsrc : Src Tryz.prog 1 56 (.slice (some ⟨w7.heap.size, 0, none⟩) 1 1) 1 [.string x.2.path] (w7.alloc (.cells #[.string x.2.path] 9)) := hs1.src Tryz.underlying56 1 1 (by simp) (fun u hu => by simp at hu; subst hu; rfl)
              obtain ⟨i0, hi, hz0, hz1', hz2⟩ := strInfo
              obtain ⟨hRg7, hlt7⟩ := HRG6.out.kept (ext_grown hE7 none) (fun _ _ => by simp) (by simp)
              obtain ⟨hRg8, hlt8⟩ := hRg7.kept (World.grownBy_alloc w7 (.cells #[.string x.2.path] 9) none) (fun _ _ => by simp) (by simp)
              have hE8 : Ext w (w7.alloc (.cells #[.string x.2.path] 9)) := (HE6.out.trans hE7).trans (Ext.alloc _ _)
              have hz7 := hE7.size
              have hzE := HE6.out.size
              have hW2z := hrow8.lt g2 rfl
              have HRG8 := Lib.hid hRg8
              have HE8 := Lib.hid hE8
              have HLT8 := Lib.hid (hlt8.trans hlt7)
              clear CJ hb7 hE7 hs1 hRg7 hlt7 hRg8 hlt8 hE8 hrow7 HRG6
              go_wp2_with (at_builtin; refine wpList_append_src _ rfl (.tmp 51) (.tmp 53) 56 56 rfl W2.heap.size 9 i0 (.string ⟨#[]⟩) 1 16 Tryz.underlying56 hi hz0 hz1' hz2 rfl (by decide) _ l2.length _ rfl hrow8 _ 1 _ rfl hsrc ?c1 ?c2 ?c3 ?_)
              case c1 => unfold maxLen; omega
              case c2 => omega
              case c3 => have := hW2z.2; simp at this ⊢; omega
              intro v' w9 hown9 hg9 _ ho9
              have hbrow : ∀ b, mb = some b → some b ≠ (Value.slice (some ⟨g2, 0, none⟩) l2.length cap2).ownBlock := fun b hb e => by
                have h1 := HT.out.bound b (HMS.out b hb)
                have h2 : b = g2 := by simpa [Value.ownBlock] using e
                omega
              obtain ⟨hRg9, hlt9⟩ := HRG8.out.kept hg9 hbrow (by simp [Value.ownBlock]; exact fun e => hgr2 e.symm)
              have hE9 : Ext w w9 := HE8.out.trans' ⟨hg9.os, hg9.tape, hg9.output, hg9.size, fun i hi => hg9.block i (Nat.lt_of_lt_of_le hi HE8.out.size) (fun e => by
                have h2 : i = g2 := by simpa [Value.ownBlock] using e
                omega)⟩
              have hown9' : w9.ownsRow W2.heap.size 9 1 v' (l2 ++ [x.2.path]).length ((l2 ++ [x.2.path]).map Value.string) := by
                simpa using hown9
              have hp9 : (l2 ++ [x.2.path])[k]? = some p := by rw [List.getElem?_append_left hk2']; exact HP2.out
              have hlt : rngLeft mb wo.heap.size w9 < rngLeft mb wo.heap.size wr := by
                rw [hlt9, HLT8.out]; exact HLT6.out
              have HREL := Lib.hid (show ∃ (l2 : List ByteArray) (left : Key → Bool), l2[k]? = some p ∧ Bfs M s l2 k left ∧ w9.ownsRow W2.heap.size 9 1 v' l2.length (l2.map Value.string) ∧ RngAt w9 wo.heap.size mb (kidsOf M p) left ∧ Ext w w9 from ⟨_, _, hp9, HBS.out, hown9', hRg9, hE9⟩)
              have HLT := Lib.hid hlt
              clear hRg9 hlt9 hE9 hown9' hp9 hlt hown9 hg9 ho9 hsrc hrow8 hbrow hen
              go_wp2
              go_roundw
              case rel => exact HREL.out
              case measure => exact HLT.out
      · obtain rfl : k = l.length := by omega
        rcases hrow.2 with ⟨_, h0⟩ | ⟨g, cap, cur, rfl, hbase, hb, h1, h2, h3, h4⟩
        · have := hB.head
          rw [List.eq_nil_of_length_eq_zero h0] at this
          simp at this
        have h4' : cur.toList.take (l.map fun p => p.data.toList).length = (l.map fun p => p.data.toList).map encStr := by
          rw [List.length_map, List.map_map, ← Nat.mul_one l.length, h4]
          refine List.map_congr_left fun p _ => ?_
          simp [encStr]
        have hsrt := hB.sorted HM.out HC.out
        have CS : Calls Tryz.prog 189 #[.slice (some ⟨g, 0, none⟩) l.length cap] wo fun e w' => e = .returned (.tuple #[]) ∧ ∃ n os, w' = grow (putRow encStr (Sort.ahead wo n) g 0 ((l.map fun p => p.data.toList).mergeSort fun x y => decide (x ≤ y)).toArray) os := by
          have := AnyM.slices_Sort_string Tryz.sortS g 0 cap (l.map fun p => p.data.toList) wo (holds_of_block hb h4') (Array.getElem?_eq_some_iff.1 hb).1 (by rw [List.length_map]; omega)
          rw [List.length_map] at this
          exact this
        rw [hsrt] at CS
        have hul : (undK M s).length = (l.map fun p => p.data.toList).length := by rw [← hsrt, List.length_mergeSort]
        have hlm : (l.map fun p => p.data.toList).length = l.length := List.length_map _
        have hfin : ∀ n os, SortedOut (UndL M s) w (.returned (.slice (some ⟨g, 0, none⟩) l.length cap)) (grow (putRow encStr (Sort.ahead wo n) g 0 (undK M s).toArray) os) := fun n os => by
          rw [HU.out]
          have h5 := ownsRow_sorted (n := n) (os := os) hul hbase hb (by rw [hlm]; exact h1) h2 h3
          rw [hlm, ← hlm, ← hul] at h5
          have hpos : 0 < l.length := List.length_pos_of_mem hB.head
          have hE9 := grownBy_sorted (n := n) (os := os) (w := wo) (g := g) (undK M s).toArray
          refine ⟨_, by rw [← hlm, ← hul], ownsRow_base_a h5 (by have := HEW.out.size; omega), ⟨fun e => (by cases e), fun e => (by rw [e] at hul; rw [hlm] at hul; simp at hul; omega)⟩, hE.trans' ⟨hE9.os, hE9.tape, hE9.output, hE9.size, fun i hi => hE9.block i (Nat.lt_of_lt_of_le hi hE.size) (fun e => by
            have := Option.some.inj e
            have := HEW.out.size
            omega)⟩⟩
        have CS := Lib.hid CS
        have HFIN := Lib.hid hfin
        clear hfin hul hsrt h4' h4 hb hB hE hrow
        go_wp2_with fail
        refine CS.out.mono ?_
        rintro e w8 ⟨rfl, n, os, rfl⟩
        clear CS
        go_wp2
        go_ret
        exact HFIN.out n os
end Go.Proofs.YthinpbdbhijbgaaGreatDoor
namespace Go.Proofs.YthinpbdbhijbgaaGreatDoor
open Go.RowKit Go.Sort
set_option maxHeartbeats 4000000
set_option maxRecDepth 100000

theorem rname_any (s : ByteArray) (w : World) (hv : vpath s = true) (hs : s.size ≤ 9223372036854775800) : Calls Tryz.prog 153 #[.string s] w fun e w' => e = .returned (.tuple #[.string (nameB s), .int .i64 0]) ∧ Ext w w' := by
  have C1 := rvalid_any s w (by omega)
  rw [hv] at C1
  have R : Hid (nameB s = s.extract (lastS s + 1).toNat s.size) := rfl
  have C1 := Lib.hid C1
  have C2 := fun w => rlast_any s w hv hs
  obtain ⟨i, e, hi, _, _⟩ := lastS_spec hv
  rw [e] at C2 R
  have C2 := Lib.hid C2
  clear hv e
  go_enter Tryz.func153, Tryz.ntmps153
  go_wp2_with fail
  refine C1.out.mono ?_
  rintro e w1 ⟨rfl, hb1⟩
  clear C1
  go_wp2_with fail
  refine (C2.out _).mono ?_
  rintro e w2 ⟨rfl, rfl⟩
  clear C2
  go_wp2
  go_ret2
  exact ⟨by rw [R.out]; rfl, hb1⟩

theorem kids_take (M : List (Key × Nd)) (s : ByteArray) (k : Nat) (hk : k < M.length) : kidsOf (M.take (k + 1)) s = kidsOf (M.take k) s ++ if childOf s M[k].2 = true then [(nameK M[k].2, Value.agg #[])] else [] := by
  unfold kidsOf
  rw [List.take_succ_eq_append_getElem hk, List.filter_append, List.map_append]
  congr 1
  by_cases h : childOf s M[k].2 = true
  · rw [if_pos h, List.filter_cons_of_pos (by simpa using h)]; rfl
  · rw [if_neg h, List.filter_cons_of_neg (by simpa using h)]; rfl

def KidsOut (M : List (Key × Nd)) (s : ByteArray) (w : World) (e : Ending) (w' : World) : Prop :=
  ∃ v, e = .returned v ∧ w'.ownsRow w.heap.size 9 1 v (kidsOf M s).length ((kidsOf M s).map fun x => encStr x.1) ∧ Ext w w'

theorem rkids_any (w : World) (b : Nat) (M : List (Key × Nd)) (hR : RT w b (nds M)) (hM : MOk M) (s : ByteArray) (hl : M.length * 16 ≤ 140737488355328) : Calls Tryz.prog 93 #[.pointer (some ⟨b, 0, none⟩), .string s] w (KidsOut M s w) := by
  obtain ⟨a, cap, vs, hb, hlc, hcm, hS, hrows, _⟩ := hR
  have hcb : w.cell? ⟨b, 0, none⟩ = some (.slice a (nds M).length cap) := cell_of_row _ _ _ _ _ _ hb
  have hbl := (Array.getElem?_eq_some_iff.1 hb).1
  rw [nds_length] at hcb
  have hl64 : M.length ≤ 9223372036854775807 := by omega
  have HROWS := Lib.hid hrows
  have HS := Lib.hid hS
  have HM := Lib.hid hM
  have HKL := Lib.hid (fun k => kids_length (M.take k) s)
  clear hb hrows hS hM hlc hcm
  go_enter Tryz.func93, Tryz.ntmps93
  go_wp2
  go_loopw [5, 6] (fun ov i wr => ∃ (k n : Nat), k ≤ M.length ∧ i = .int .i64 k ∧ Hid (n = (kidsOf (M.take k) s).length) ∧ n ≤ k ∧ wr.ownsRow w.heap.size 9 1 ov n ((kidsOf (M.take k) s).map fun x => encStr x.1) ∧ Ext w wr) (fun _ i _ => M.length - (intOf i).toNat)
  case atStart => exact ⟨0, 0, Nat.zero_le _, rfl, rfl, Nat.le_refl _, World.ownsRow_nil _ _ _ _, Ext.refl _⟩
  case round =>
    obtain ⟨k, q, hk, rfl, HN, hqk, hown, hE⟩ := hrel
    have hcr : wr.cell? ⟨b, 0, none⟩ = some (.slice a M.length cap) := (hE.cell (p := ⟨b, 0, none⟩) hbl).trans hcb
    by_cases hlt : k < M.length
    · have hMk : (nds M)[k]? = some M[k].2 := by unfold nds; rw [List.getElem?_map, List.getElem?_eq_getElem hlt]; rfl
      obtain ⟨bl, off, da, dc, aa, ac, ea, hSb, hc, _⟩ := HROWS.out.row hMk
      subst ea
      have hright := HM.out.right M[k] (List.getElem_mem hlt)
      have hst := kids_take M s k hlt
      have hfit := (right_fit hright).1
      have hv := right_vpath hright
      generalize M[k].2 = n at *
      have c0 : wr.cell? ⟨bl, off + k * 17, none⟩ = some (.string n.path) := (hE.cell (p := ⟨bl, off + k * 17, none⟩) (HS.out bl hSb).1).trans (hc 0 _ rfl)
      have hbS : bl ≠ b := (HS.out bl hSb).2
      have hp64 := hfit.path
      have hroot := root_iff hv
      have HE := Lib.hid hE
      have HOWN := Lib.hid hown
      clear hc hE hMk hown
      by_cases h1 : n.path.size = 1
      · have e2 : n.path.toList = [47] := by rw [ByteArray.toList_eq]; exact hroot.1 h1
        have e1 : (n.path.toList == [47]) = true := by simpa using e2
        have hch : childOf s n = false := by unfold childOf; simp [h1]
        rw [hch] at hst
        have HST := Lib.hid hst
        clear hst hch hroot hright
        go_wp2
        go_roundw
        case rel => exact ⟨k + 1, q, by omega, by go_num, by unfold Hid; rw [HST.out]; simpa using HN.out, by omega, by rw [HST.out]; simpa using HOWN.out, HE.out⟩
        case measure => simp [intOf]; omega
      · have e2 : ¬ n.path.toList = [47] := by rw [ByteArray.toList_eq]; exact fun h => h1 (hroot.2 h)
        have e1 : (n.path.toList == [47]) = false := by simpa using e2
        have CP := rparent_any n.path wr hp64
        rw [show parV n.path = .tuple #[.string (parentB n.path), .int .i64 0] by unfold parV; rw [if_pos ⟨hv, h1⟩]] at CP
        have CP := Lib.hid CP
        by_cases hps : parentB n.path = s
        · have hch : childOf s n = true := childOf_iff.2 ⟨h1, hps⟩
          rw [hch] at hst
          have HST := Lib.hid hst
          have p2 : (parentB n.path).toList = s.toList := by rw [hps]
          have p1 : ((parentB n.path).toList == s.toList) = true := by simpa using p2
          clear hst hch hroot hright
          go_wp2_with fail
          refine CP.out.mono ?_
          rintro e w2 ⟨rfl, hE2⟩
          have hE2 : Ext wr w2 := hE2
          have hz2 := hE2.size
          have hzr := HE.out.size
          have c2 : w2.cell? ⟨bl, off + k * 17, none⟩ = some (.string n.path) := (hE2.cell (p := ⟨bl, off + k * 17, none⟩) (World.block_lt_of_cell? _ _ c0)).trans c0
          have hcr2 : w2.cell? ⟨b, 0, none⟩ = some (.slice (some ⟨bl, off, none⟩) M.length cap) := (hE2.cell (p := ⟨b, 0, none⟩) (World.block_lt_of_cell? _ _ hcr)).trans hcr
          have CN := Lib.hid (rname_any n.path w2 hv hp64)
          have HE2 := Lib.hid (HE.out.trans hE2)
          have HO2 := Lib.hid (HOWN.out.kept (ext_grown hE2 none) (Classical.em _))
          clear hE2 CP c0 hcr hcb HOWN
          go_wp2_with fail
          refine CN.out.mono ?_
          rintro e w3 ⟨rfl, hE3⟩
          have hE3 : Ext w2 w3 := hE3
          have hz3 := hE3.size
          have hrow7 := HO2.out.kept (ext_grown hE3 none) (Classical.em _)
          have hrow8 := hrow7.alloc (.cells #[.string (nameB n.path)] 9)
          have hs1 : Cells (w3.alloc (.cells #[.string (nameB n.path)] 9)).heap.size (w3.alloc (.cells #[.string (nameB n.path)] 9)) (some ⟨w3.heap.size, 0, none⟩) [.string (nameB n.path)] := fun j u hj => by
            refine ⟨_, 0, rfl, by simp, ?_⟩
            rw [Nat.zero_add, cell_of_row _ _ _ _ _ _ (heap_alloc_new w3 _)]
            simpa using hj
          have hsrc : Src Tryz.prog 1 56 (.slice (some ⟨w3.heap.size, 0, none⟩) 1 1) 1 [.string (nameB n.path)] (w3.alloc (.cells #[.string (nameB n.path)] 9)) := hs1.src Tryz.underlying56 1 1 (by simp) (fun u hu => by simp at hu; subst hu; rfl)
          obtain ⟨i0, hi, hz0, hz1', hz2'⟩ := strInfo
          have hE8 : Ext w (w3.alloc (.cells #[.string (nameB n.path)] 9)) := (HE2.out.trans hE3).trans (Ext.alloc _ _)
          have HE8 := Lib.hid hE8
          have HO8 := Lib.hid hrow8
          clear CN hE3 hs1 hE8 hrow7 HO2 c2 hcr2 HE2 HE
          go_wp2_with (at_builtin; refine wpList_append_src _ rfl (.tmp 56) (.tmp 58) 56 56 rfl w.heap.size 9 i0 (.string ⟨#[]⟩) 1 16 Tryz.underlying56 hi hz0 hz1' hz2' rfl (by decide) _ q _ rfl hrow8 _ 1 _ rfl hsrc ?c1 ?c2 ?c3 ?_)
          case c1 => unfold maxLen; omega
          case c2 => omega
          case c3 => simp; omega
          intro v' w9 hown9 hg9 _ ho9
          have hE9 : Ext w w9 := HE8.out.trans' ⟨hg9.os, hg9.tape, hg9.output, hg9.size, fun i hi => hg9.block i (Nat.lt_of_lt_of_le hi HE8.out.size) (fun e => by
            have := (HO8.out.lt i e.symm).1
            omega)⟩
          have hown9' : w9.ownsRow w.heap.size 9 1 v' (q + 1) ((kidsOf (M.take (k + 1)) s).map fun x => encStr x.1) := by
            rw [HST.out]
            simpa [encStr, nameK] using hown9
          have hq9 : q + 1 = (kidsOf (M.take (k + 1)) s).length := by rw [HST.out, HN.out]; simp
          have HO9 := Lib.hid hown9'
          have HE9 := Lib.hid hE9
          have HQ9 := Lib.hid hq9
          clear hown9 hown9' hE9 hg9 ho9 hrow8 hsrc HO8 hq9
          go_wp2
          go_roundw
          case rel => exact ⟨k + 1, q + 1, by omega, by go_num, HQ9.out, by omega, HO9.out, HE9.out⟩
          case measure => simp [intOf]; omega
        · have hch : childOf s n = false := by
            cases h : childOf s n with
            | false => rfl
            | true => exact absurd (childOf_iff.1 h).2 hps
          rw [hch] at hst
          have HST := Lib.hid hst
          have p2 : ¬ (parentB n.path).toList = s.toList := fun h => hps (ba_ext (by rw [← ByteArray.toList_eq, ← ByteArray.toList_eq]; exact h))
          have p1 : ((parentB n.path).toList == s.toList) = false := by simpa using p2
          clear hst hch hroot hright
          go_wp2_with fail
          refine CP.out.mono ?_
          rintro e w2 ⟨rfl, hE2⟩
          have hE2 : Ext wr w2 := hE2
          have HE2 := Lib.hid (HE.out.trans hE2)
          have HO2 := Lib.hid (HOWN.out.kept (ext_grown hE2 none) (Classical.em _))
          clear hE2 CP c0 hcr hcb HOWN
          go_wp2
          go_roundw
          case rel => exact ⟨k + 1, q, by omega, by go_num, by unfold Hid; rw [HST.out]; simpa using HN.out, by omega, by rw [HST.out]; simpa using HO2.out, HE2.out⟩
          case measure => simp [intOf]; omega
    · obtain rfl : k = M.length := by omega
      rw [List.take_length] at hown HN
      have hfin : KidsOut M s w (.returned u5) wr := ⟨_, rfl, by rw [← HN.out]; exact hown, hE⟩
      have HFIN := Lib.hid hfin
      clear hfin hown hE hcb
      go_wp2
      go_ret
      exact HFIN.out
end Go.Proofs.YthinpbdbhijbgaaGreatDoor
namespace Go.Proofs.YthinpbdbhijbgaaGreatDoor
open Go.RowKit
set_option maxHeartbeats 4000000
set_option maxRecDepth 100000

/-- What Put answers, and what it makes of the nodes. -/
def putE (M : List (Key × Nd)) (n : Nd) : Int := if rightN n ≠ 0 then rightN n else if (mget M (keyN n)).isSome = true then 0 else 70
def putM (M : List (Key × Nd)) (n : Nd) : List (Key × Nd) := if putE M n = 0 then mput M (keyN n) n else M

theorem KidsAt.put_same {S : Nat → Prop} {w : World} {bn bk : Nat} {K : List (Key × Nat)} {M : List (Key × Nd)} {N : Nat} (h : KidsAt S w bn bk K M N) (hM : MOk M) {n n0 : Nd} (hn : rightN n = 0) (hg : mget M (keyN n) = some n0) : KidsAt S w bn bk K (mput M (keyN n) n) (N + 1) :=
  ⟨h.map, by have := h.len; omega, fun x hx => by rw [kids_put_same hM hn hg]; exact h.each x hx, h.apart, fun p hp => by rw [kids_put_same hM hn hg]; exact h.rest p hp⟩

theorem tput_any (S : Nat → Prop) (w : World) (bt : Nat) (M : List (Key × Nd)) (N : Nat) (hT : TreeAt S w bt M N) (n : Nd) (da aa : Option Addr) (dc ac : Nat) (hu : Tabs w) (hf : Fit n) (hN : N < 4611686018427387904)
    (hD : Cells w.heap.size w da (n.data.map u8v)) (hA : Cells w.heap.size w aa (acCs n.acl)) :
    Calls Tryz.prog 75 #[.pointer (some ⟨bt, 0, none⟩), .agg (ndC n (.slice da n.data.length dc) (.slice aa n.acl.length ac))] w (TreeTo S w bt (putM M n) (N + 1) (.int .i64 (putE M n))) := by
  obtain ⟨W2, hW2⟩ : ∃ W2, W2 = w.alloc (.cells (ndC n (.slice da n.data.length dc) (.slice aa n.acl.length ac)) 44) := ⟨_, rfl⟩
  have he2 : Ext w W2 := by rw [hW2]; exact Ext.alloc _ _
  have hz2 : W2.heap.size = w.heap.size + 1 := by rw [hW2]; simp
  have hn2 : W2.heap[w.heap.size]? = some (.cells (ndC n (.slice da n.data.length dc) (.slice aa n.acl.length ac)) 44 (0, 0)) := by rw [hW2]; exact heap_alloc_new w _
  have hT2 := hT.ext he2
  have hD2 := hD.ext he2
  have hA2 := hA.ext he2
  have hu2 : Tabs W2 := hu.below he2 hu.size
  have CR := right_any n da aa dc ac W2 hf hu2 hA2
  rw [hW2] at CR
  have HW2 := Lib.hid hW2
  have HN := Lib.hid hn2
  have HTW := Lib.hid hT
  have HNW := Lib.hid (hW2 ▸ hn2)
  unfold ndC at CR HW2 HN HNW ⊢
  have CR := Lib.hid CR
  clear hW2 hn2 hT
  by_cases hr : rightN n = 0
  · have hM := hT2.ok
    have HR := Lib.hid hr
    have hps : n.path.size ≤ maxLen := by
      have := (vpath_facts (right_vpath hr)).2.1
      unfold maxLen; omega
    have hvp := right_vpath hr
    have hvf := vpath_facts hvp
    rw [hr] at CR
    clear hr
    go_enter Tryz.func75, Tryz.ntmps75
    go_wp2_with (refine wpList_load_row rfl 44 (.tmp 3) rfl w.heap.size rfl 44 _ (0, 0) _ HNW.out Tryz.underlying44 rfl sizeNd ?_)
    refine CR.out.mono ?_
    rintro e w3 ⟨rfl, hb3⟩
    rw [← HW2.out] at hb3
    have hE3 : Ext W2 w3 := hb3
    have hT3 := hT2.ext hE3
    have hn3 := (hE3.block w.heap.size (by omega)).trans HN.out
    have hD3 := hD2.ext hE3
    have hA3 := hA2.ext hE3
    have hEw3 := he2.trans hE3
    obtain ⟨bn, bk, K, hd, hNd, hKd⟩ := hT3
    clear CR HW2 HN HNW hb3 hz2 hD2 hA2 hu2 hT2
    go_wp2
    refine there_region _ _ _ _ _ _ _ _ _ _ _ _ 0 3 _ 35 rfl (by decide) (by decide) (by decide) hd hNd w.heap.size n.path _ hn3 rfl hps rfl rfl ?_
    intro v0 v1 v2 v3 v4 v5 v6 v7 v8 v9 v10 w4 hE4
    simp only [Act.put]
    go_simp
    rename_i hK
    refine hK _ _ ?_
    have hEw4 := hEw3.trans hE4
    have hT4 : TreeAt S w4 bt M N := TreeAt.ext ⟨bn, bk, K, hd, hNd, hKd⟩ hE4
    have hD4 := hD3.ext hE4
    have hA4 := hA3.ext hE4
    have hn4 := (hE4.block w.heap.size (Array.getElem?_eq_some_iff.1 hn3).1).trans hn3
    clear hd hNd hKd hn3 hD3 hA3 hEw3
    cases hg : mget M n.path.data.toList with
    | none =>
      have hfin : TreeTo S w bt (putM M n) (N + 1) (.int .i64 (putE M n)) (.returned (.int .i64 70)) w4 := by
        have e : putE M n = 70 := by unfold putE; rw [if_neg (by rw [HR.out]; simp), if_neg (by unfold keyN; rw [hg]; simp)]
        have e2 : putM M n = M := by unfold putM; rw [if_neg (by rw [e]; decide)]
        rw [e, e2]
        exact treeTo_same HTW.out hEw4 (by omega) _
      have HFIN := Lib.hid hfin
      clear hfin hT4 hEw4 hD4 hA4 hn4 hg
      go_wp2
      go_ret
      exact HFIN.out
    | some y =>
      have e : putE M n = 0 := by unfold putE; rw [if_neg (by rw [HR.out]; simp), if_pos (by unfold keyN; rw [hg]; rfl)]
      have e2 : putM M n = mput M (keyN n) n := by unfold putM; rw [if_pos e]
      obtain ⟨bn, bk, K, hd, hNd, hKd⟩ := HTW.out
      obtain ⟨m, hm, hr⟩ := hNd.ex
      have hml : m.length ≤ N := by rw [← hr.length]; exact hNd.len
      have hfit := right_fit HR.out
      have hbt4 : w4.heap[bt]? = some (.cells (treeC bn bk) 123 (0, 0)) := (hEw4.block bt (hd.bound _ hd.st)).trans hd.blk
      have hm4 : SMap Tryz.prog 9 w4 bn m := hm.keep (hEw4.block bn (hd.bound _ hd.sn))
      have HG := Lib.hid hg
      have HEE := Lib.hid (And.intro e e2)
      have hz4 := hEw4.size
      have hbl4 := (Array.getElem?_eq_some_iff.1 hn4).1
      clear hg e e2 hT4
      go_wp2
      have hen := fun (f : FuncId) (fn : Func) (c : Code) (hf : Tryz.prog.funcs[f]? = some fn) (hname : (fn.name == "runtime.NumGoroutine") = false) (hb : fn.body = some c) => enters_f hf hname hb
      refine wp_region_last_e 35 (by kernel_rfl) (PhiL w.heap.size bt bn n (ndC n (.slice da n.data.length dc) (.slice aa n.acl.length ac))) (PhiL.stab _ _ _ _ _) (by decide) rfl 8 _ rfl rfl rfl rfl ?_ ?fin
      · refine ⟨?_, ?_, ?_, ?_, ?_, ?_, ?_, ?_, trivial⟩
        · exact duty_free rfl fun a w' hE hF hA => wp_value (w' := w') (ex_move rfl) ⟨_, rfl, hF.slot 0 _ (by decide) rfl, Ext.refl _⟩
        · refine duty_free rfl fun a w' hE hF hA => ?_
          have x1 : a.eval (.tmp 27) = _ := hA.slot 0 27 rfl rfl ⟨⟨0, .data⟩, by simp, rfl, rfl⟩
          exact wp_value (ex_nilCheck rfl _ x1) ⟨_, rfl, rfl, Ext.refl _⟩
        · refine duty_free rfl fun a w' hE hF hA => ?_
          have x1 : a.eval (.tmp 28) = _ := hA.slot 1 28 rfl rfl ⟨⟨1, .data⟩, by simp, rfl, rfl⟩
          exact wp_value (v := .pointer (some ⟨bt, 0, none⟩)) (w' := w') (by simp only [execOp, x1]; simp [go_sem]) ⟨_, rfl, rfl, Ext.refl _⟩
        · refine duty_free rfl fun a w' hE hF hA => ?_
          have x1 : a.eval (.tmp 29) = _ := hA.slot 2 29 rfl rfl ⟨⟨2, .data⟩, by simp, rfl, rfl⟩
          refine wp_value (ex_cell rfl _ (.map (some bn)) x1 ?_ rfl Tryz.underlying120) ⟨_, rfl, rfl, Ext.refl _⟩
          exact cell_of_row w' bt 0 _ _ _ ((hE.block bt (Array.getElem?_eq_some_iff.1 hbt4).1).trans hbt4)
        · refine duty_free rfl fun a w' hE hF hA => ?_
          have x1 : a.eval (.tmp 3) = _ := hF.slot 3 (.pointer (some ⟨w.heap.size, 0, none⟩)) (by decide) rfl
          exact wp_value (v := .pointer (some ⟨w.heap.size, 0, none⟩)) (w' := w') (by simp only [execOp, x1]; simp [go_sem]) ⟨_, rfl, rfl, Ext.refl _⟩
        · refine duty_free rfl fun a w' hE hF hA => ?_
          have x1 : a.eval (.tmp 31) = _ := hA.slot 4 31 rfl rfl ⟨⟨4, .data⟩, by simp, rfl, rfl⟩
          refine wp_value (ex_cell rfl _ (.string n.path) x1 ?_ rfl Tryz.underlying9) ⟨_, rfl, rfl, Ext.refl _⟩
          exact cell_of_row w' w.heap.size 0 _ _ _ ((hE.block w.heap.size hbl4).trans hn4)
        · refine duty_free rfl fun a w' hE hF hA => ?_
          have x1 : a.eval (.tmp 3) = _ := hF.slot 3 (.pointer (some ⟨w.heap.size, 0, none⟩)) (by decide) rfl
          exact wp_value (ex_load_row rfl w.heap.size x1 44 _ (0, 0) _ ((hE.block w.heap.size hbl4).trans hn4) Tryz.underlying44 rfl sizeNd) ⟨_, rfl, rfl, Ext.refl _⟩
        · refine duty_free rfl fun a w' hE hF hA => ?_
          have x1 : a.eval (.tmp 33) = _ := hA.slot 6 33 rfl rfl ⟨⟨6, .data⟩, by simp, rfl, rfl⟩
          refine wp_enter (ex_call rfl (hen _ _ _ Tryz.func129 (by kernel_rfl) rfl)) (by simp only [List.map_toArray, List.map_cons, List.map_nil, x1]; exact sclone_nd n da aa dc ac w' hfit.1 (hD4.ext hE) (hA4.ext hE)) ?_
          rintro e w5 ⟨v, rfl, hv, hb⟩
          exact ⟨_, rfl, v, rfl, hv.imp (fun b hb' => ⟨by have := hE.size; omega, hb'.2⟩) (fun _ _ _ _ h => h), hb⟩
      case fin =>
        intro us w2 hE hl hP
        have hl' : us.length = 8 := by simpa using hl
        obtain ⟨u0, u1, u2, u3, u4, u5, u6, u7, rfl⟩ := us8 us hl'
        have h3 : u3 = .map (some bn) := hP 3 u3 rfl
        have h5 : u5 = .string n.path := hP 5 u5 rfl
        have h7 : NdS (fun b => w.heap.size < b ∧ b < w2.heap.size) w2 u7 n := hP 7 u7 rfl
        subst h3 h5
        clear hP hl hl' hen
        have hm2 : SMap Tryz.prog 9 w2 bn m := hm4.keep (hE.block bn (by have := hd.bound _ hd.sn; omega))
        have q1 : m.length < maxLen := by unfold maxLen; omega
        have hQ := SMap.store hm2 strT Tryz.underlying120 q1 hps u7
        have hQ1 := hQ.choose_spec
        generalize hQ.choose = w3 at hQ1
        have hrun := hQ1.1
        have hs3 := hQ1.2.1
        have ht3 := hQ1.2.2
        clear hQ1 hQ
        have he2 : Ext w w2 := hEw4.trans hE
        have hNn := lay_nodes hd hNd hm hr he2 HR.out h7 hs3 ht3
        have hKn := lay_kids hd hKd he2 ht3
        have hMod : Mod S w w3 := (Mod.of_ext he2).trans (Mod.turned ht3 hd.sn)
        have hw3 : w.heap.size ≤ w3.heap.size := hMod.size
        have hbl : w3.heap[bt]? = some (.cells (treeC bn bk) 123 (0, 0)) := hMod.cells hd.blk
        have fin : TreeTo S w bt (putM M n) (N + 1) (.int .i64 (putE M n)) (.returned (.int .i64 0)) w3 := by
          rw [HEE.out.1, HEE.out.2]
          exact ⟨rfl, ⟨bn, bk, K, ⟨hbl, .inl hd.st, .inl hd.sn, .inl hd.sk, hd.ne, fun k hk => hk.elim (fun h => Nat.lt_of_lt_of_le (hd.bound k h) hw3) (fun h => h.2)⟩, hNn,
            (hKn.put_same hNd.ok HR.out HG.out).keep rfl (fun _ h => .inl h) (fun _ _ => rfl) (Nat.le_refl _)⟩, hMod⟩
        have FIN := Lib.hid fin
        clear fin hMod hNn hKn hs3 ht3 h7 he2 hbl hm2 hm4 hn4 hD4 hA4 hbt4 hE hr
        simp only [filled, List.take_succ_cons, List.take_zero, List.zip_cons_cons, List.zip_nil_right, List.foldl_cons, List.foldl_nil, Act.put]
        go_simp
        rename_i hK
        refine hK _ _ ?_
        clear hrun
        go_wp2
        go_ret
        exact FIN.out
  · have hne : (rightN n != 0) = true := by simpa using hr
    have e : putE M n = rightN n := by unfold putE; rw [if_pos hr]
    have e2 : putM M n = M := by unfold putM; rw [if_neg (by rw [e]; exact hr)]
    have E1 := Lib.hid e
    have E2 := Lib.hid e2
    clear hr e e2
    go_enter Tryz.func75, Tryz.ntmps75
    go_wp2_with (refine wpList_load_row rfl 44 (.tmp 3) rfl w.heap.size rfl 44 _ (0, 0) _ HNW.out Tryz.underlying44 rfl sizeNd ?_)
    refine CR.out.mono ?_
    rintro e w3 ⟨rfl, hb3⟩
    rw [← HW2.out] at hb3
    have hfin : TreeTo S w bt (putM M n) (N + 1) (.int .i64 (putE M n)) (.returned (.int .i64 (rightN n))) w3 := by
      rw [E1.out, E2.out]
      exact treeTo_same HTW.out (he2.trans hb3) (by omega) _
    have HFIN := Lib.hid hfin
    clear hfin CR hb3 hT2 hD2 hA2 HN HNW HW2 hu2
    go_wp2
    go_ret
    exact HFIN.out
end Go.Proofs.YthinpbdbhijbgaaGreatDoor
namespace Go.Proofs.YthinpbdbhijbgaaGreatDoor
open Go.RowKit
set_option maxHeartbeats 1000000

theorem rfind_take' : ∀ {M : List (Key × Nd)}, MSorted M → (∀ x ∈ M, x.1 = keyN x.2) → ∀ s : ByteArray, (mget M s.data.toList).isSome = true → nds (mdel M s.data.toList) = (nds M).take (rfind (nds M) s).1 ++ (nds M).drop ((rfind (nds M) s).1 + 1)
  | [], _, _, _, h => by cases h
  | y :: r, hs, hk, s, h => by
    obtain ⟨h1, h2⟩ := List.pairwise_cons.1 hs
    have hy : y.1 = y.2.path.data.toList := hk y (List.mem_cons_self ..)
    show nds (mdel (y :: r) s.data.toList) = (y.2 :: nds r).take (rfind (y.2 :: nds r) s).1 ++ (y.2 :: nds r).drop ((rfind (y.2 :: nds r) s).1 + 1)
    unfold rfind
    rw [ordL_eq, ← hy]
    by_cases e : y.1 = s.data.toList
    · rw [if_pos e, if_pos rfl]
      have hr : mdel (y :: r) s.data.toList = r := by
        unfold mdel
        rw [List.filter_cons_of_neg (by simp [e])]
        exact List.filter_eq_self.2 fun x hx => by
          have h3 := h1 x hx
          simp only [Bool.not_eq_true', beq_eq_false_iff_ne, ne_eq]
          intro e'
          rw [e, e', WideAt.bytes_irrefl] at h3; cases h3
      rw [hr]; simp
    · have hg : mget (y :: r) s.data.toList = mget r s.data.toList := by
        unfold mget
        rw [List.find?_cons_of_neg (by simpa using e)]
      rw [hg] at h
      have ih := rfind_take' h2 (fun x hx => hk x (List.mem_cons_of_mem _ hx)) s h
      obtain ⟨v, hv⟩ := Option.isSome_iff_exists.1 h
      have hb : bytesBefore y.1 s.data.toList = true := h1 _ (mget_some_mem hv)
      have hr : mdel (y :: r) s.data.toList = y :: mdel r s.data.toList := by
        unfold mdel
        rw [List.filter_cons_of_pos (by simpa using e)]
      rw [if_neg e, if_pos hb, if_neg (show ¬ ((-1 : Int) = 0) by decide), if_neg (show ¬ ((0 : Int) < -1) by decide), hr]
      simp only [List.take_succ_cons, List.drop_succ_cons, List.cons_append]
      rw [← ih]; rfl
theorem rfind_take {M : List (Key × Nd)} (hM : MOk M) (s : ByteArray) (h : (mget M s.data.toList).isSome = true) : nds (mdel M s.data.toList) = (nds M).take (rfind (nds M) s).1 ++ (nds M).drop ((rfind (nds M) s).1 + 1) := rfind_take' hM.sorted hM.key s h
theorem mdel_twice {α : Type} (M : List (Key × α)) (k : Key) : mdel (mdel M k) k = mdel M k := by
  unfold mdel
  exact List.filter_eq_self.2 fun x hx => (List.mem_filter.1 hx).2
theorem mput_mdel {α : Type} (M : List (Key × α)) (k : Key) (v : α) : mput (mdel M k) k v = mput M k v := by
  unfold mput; rw [mdel_twice]

/-- A call of a script: its kind, its path, its node. -/
structure Opn where
  k : Int
  p : ByteArray
  n : Nd
instance : Inhabited Opn := ⟨⟨0, ⟨#[]⟩, zeroN⟩⟩
/-- What it makes of the nodes, and its answer. -/
def opM (M : List (Key × Nd)) (o : Opn) : List (Key × Nd) := if o.k = 2 then putM M o.n else if o.k = 3 then remM M o.p else addM M o.n
end Go.Proofs.YthinpbdbhijbgaaGreatDoor
