/- The walk of (*Tree).under. The walk of the law's Below: a range over the nodes under a path. The walks of a nil tree's methods. The walks of arborref07's Get and After. -/
import Derived.Test.YtamolbegmkngdaaGreatDoorJTreeMakes12
import Derived.Sort.OwnSorted
import Derived.Great.BuildSlice
import Derived.Test.YtamolbegmkngdaaGreatDoorJTreeMakes9
import Derived.Test.YtamolbegmkngdaaGreatDoorJTreeMakes11
import Derived.Test.YtamolbegmkngdaaGreatDoorJTreeMakes10
import Derived.Test.YtamolbegmkngdaaGreatDoorJTreeMakes6
namespace Go.Proofs.YtamolbegmkngdaaGreatDoor
open Go.RowKit Go.Sort
set_option maxHeartbeats 2000000
set_option maxRecDepth 100000

/-- An operation that leaves memory. -/
theorem dutyS_same {P : Program} {ops : Array Oper} {Q : Exit → Act → World → Prop} {a0 : Act} {i : Nat} {o : Oper} {G : (Nat → Bool) → World → Prop} {Φ : Nat → Value → Prop} (hG : ∀ d d' w, G d w → (∀ k, k ≠ i → d' k = d k) → G d' w)
    (h : ∀ d a w, G d w → Framed ops a0 a → Ahead ops (fun i v _ => Φ i v) o a w → ∃ v, (execOp a.eval o).run P w = .ok (.value v) w ∧ Φ i v) : DutyS P ops Q G Φ a0 i o := by
  intro d a w _ _ _ hGw hF hA
  obtain ⟨v, hr, hv⟩ := h d a w hGw hF hA
  refine wp_value hr ⟨v, rfl, hv, hG d _ _ hGw fun k hk => ?_⟩
  have : (k == i) = false := by simpa using hk
  rw [this, Bool.or_false]

theorem ext_grown {a b : World} (h : Ext a b) (row : Option Nat) : a.grownBy b row := ⟨h.os, h.tape, h.output, h.size, fun k hk _ => h.block k hk⟩
theorem ownBlock_at {w : World} {base e size n : Nat} {v : Value} {xs : List Value} (h : w.ownsRow base e size v n xs) (k : Nat) (hk : v.ownBlock = some k) : ∃ c, w.heap[k]? = some (.cells c e (0, 0)) := by
  rcases h.2 with ⟨rfl, _⟩ | ⟨g, cap, cur, rfl, _, hg, _⟩
  · simp [Value.ownBlock] at hk
  · simp [Value.ownBlock] at hk
    subst hk
    exact ⟨_, hg⟩

/-- A range over a map that may be nil: which names are left. -/
def RngAt (W : World) (r : Nat) (mb : Option Nat) (L : List (Key × Value)) (left : Key → Bool) : Prop :=
  match mb with
  | some b => ∃ (lf : Lit → Bool) (cnt : Nat), (∀ k, lf (.string k) = left k) ∧ W.ranges Tryz.prog 9 Rv b r L.length (kvD L) lf cnt
  | none => L = [] ∧ (∀ k, left k = false) ∧ W.heap[r]? = some (.mapIter none 0 #[] 0)
def rngLeft (mb : Option Nat) (r : Nat) (W : World) : Nat := match mb with | some b => W.rangeLeft b r | none => 0

theorem RngAt.iter {W : World} {r : Nat} {mb : Option Nat} {L : List (Key × Value)} {left : Key → Bool} (h : RngAt W r mb L left) : ∃ m s c d, W.heap[r]? = some (.mapIter m s c d) := by
  cases mb with
  | some b =>
    obtain ⟨lf, cnt, _, es, clock, since, seen, c0, _, _, _, _, hr, _⟩ := h
    exact ⟨_, _, _, _, hr⟩
  | none => exact ⟨_, _, _, _, h.2.2⟩
theorem RngAt.kept {W W' : World} {r : Nat} {mb : Option Nat} {L : List (Key × Value)} {left : Key → Bool} {row : Option Nat} (h : RngAt W r mb L left) (hg : W.grownBy W' row) (hb : ∀ b, mb = some b → some b ≠ row) (hr : some r ≠ row) : RngAt W' r mb L left ∧ rngLeft mb r W' = rngLeft mb r W := by
  cases mb with
  | some b =>
    obtain ⟨lf, cnt, h1, h2⟩ := h
    have h3 := h2.kept hg (hb b rfl) hr
    exact ⟨⟨lf, cnt, h1, h3⟩, by show W'.rangeLeft b r = W.rangeLeft b r; rw [h3.left_eq, h2.left_eq]⟩
  | none =>
    obtain ⟨h1, h2, h3⟩ := h
    exact ⟨⟨h1, h2, (hg.block r (Array.getElem?_eq_some_iff.1 h3).1 hr).trans h3⟩, rfl⟩

section
variable {ops : Array Oper} {rest : List Oper} {o : Oper} {a : Act} {Q : Exit → Act → World → Prop}
theorem run_next_none {P : Program} (w : World) (ty : TypeId) (r s c : Nat) (d : Array Nat) (h : w.heap[r]? = some (.mapIter none s d c)) : (Instr.next (.pointer (some ⟨r, 0, none⟩)) false ty).run P w = .ok (.tuple #[.bool false]) w := by
  simp only [Instr.next, getObj, Sem.run_bind, Sem.run, h, Result.andThen]
  rfl
theorem wpList_next_any (w : World) (hg : o.guard = none) (it : Operand) (hop : o.op = Op.next it false) (mb : Option Nat) (r : Nat) (L : List (Key × Value)) (left : Key → Bool)
    (hit : a.eval it = .pointer (some ⟨r, 0, none⟩)) (h : RngAt w r mb L left)
    (hDone : (∀ k, left k = false) → wpList Tryz.prog ops Q rest (a.put o.dst (.tuple #[.bool false])) w)
    (hMore : ∀ (s : ByteArray) (v : Value) (w' : World), s.size ≤ maxLen → left s.data.toList = true → mget L s.data.toList = some v → RngAt w' r mb L (fun k => left k && !(k == s.data.toList)) → rngLeft mb r w' < rngLeft mb r w →
      w.grownBy w' (some r) → w'.heap.size = w.heap.size → (Instr.entry (.pointer (some ⟨r, 0, none⟩))).run Tryz.prog w' = .ok (.tuple #[.string s, v]) w' → wpList Tryz.prog ops Q rest (a.put o.dst (.tuple #[.bool true, .string s, v])) w') :
    wpList Tryz.prog ops Q (o :: rest) a w := by
  cases mb with
  | some b =>
    obtain ⟨lf, cnt, h1, h2⟩ := h
    refine wpList_next_left w hg it hop 9 strT b r L.length L lf cnt hit h2 (fun hl => hDone fun k => by rw [← h1]; exact hl _) fun s v w' cnt' hs hls hm hrg hlt hgr hsz hen => ?_
    refine hMore s v w' hs (by rw [← h1]; exact hls) hm ⟨_, cnt', fun k => ?_, hrg⟩ ?_ hgr hsz hen
    · show (lf (.string k) && !(k == s.data.toList)) = _
      rw [h1]
    · show w'.rangeLeft b r < w.rangeLeft b r
      rw [hrg.left_eq, h2.left_eq]; exact hlt
  | none =>
    obtain ⟨h1, h2, h3⟩ := h
    refine wpList_plain hg fun K' hK' => ?_
    unfold Oper.wp
    simp [execOp, hop, hit, run_next_none w o.type r 0 0 #[] h3, Result.andThen]
    exact hK' _ _ (hDone h2)
end

/-- What the region that ranges leaves. -/
def UnG (Wr : World) (mb : Option Nat) (L : List (Key × Value)) (d : Nat → Bool) (W : World) : Prop :=
  if d 9 = true then RngAt W Wr.heap.size mb L (fun k => (mget L k).isSome) ∧ Wr.grownBy W none ∧ W.heap.size = Wr.heap.size + 1 else Ext Wr W ∧ W.heap.size = Wr.heap.size
theorem UnG.same {Wr : World} {mb : Option Nat} {L : List (Key × Value)} {i : Nat} (hi : i ≠ 9) (d d' : Nat → Bool) (w : World) (h : UnG Wr mb L d w) (hd : ∀ k, k ≠ i → d' k = d k) : UnG Wr mb L d' w := by
  unfold UnG at h ⊢
  rw [hd 9 (Ne.symm hi)]
  exact h

theorem Bfs.enter {M : List (Key × Nd)} {s : ByteArray} {l : List ByteArray} {i : Nat} {p : ByteArray} (h : Bfs M s l i (fun _ => true)) (hp : l[i]? = some p) : Bfs M s l i (fun k => (mget (kidsOf M p) k).isSome) := by
  refine ⟨h.head, h.nodup, h.mem, h.done, fun q hq x hx hc hl => ?_, fun q hq => ?_⟩
  · exfalso
    have e : p = q := Option.some.inj (hp.symm.trans hq)
    subst e
    have hm : (nameK x.2, Value.agg #[]) ∈ kidsOf M p := mem_kids.2 ⟨x, hx, hc, rfl⟩
    cases hg : mget (kidsOf M p) (nameK x.2) with
    | none => exact mget_none hg _ hm rfl
    | some v => rw [hg] at hl; cases hl
  · rcases h.back q hq with e | ⟨j, r, h1, h2, h3, h4⟩
    · exact .inl e
    · refine .inr ⟨j, r, h1, h2, h3, .inl ?_⟩
      rcases h4 with h4 | ⟨_, h4⟩
      · exact h4
      · cases h4

theorem strInfo : ∃ i, Tryz.prog.info? 9 = some i ∧ i.zero = some (.string ⟨#[]⟩) ∧ i.size = 1 ∧ i.bytes = 16 := info_parts infoStr

def UndL (M : List (Key × Nd)) (s : ByteArray) : List Key := if (mget M s.data.toList).isSome = true then undK M s else []

set_option maxHeartbeats 8000000 in
theorem under_any (S : Nat → Prop) (w : World) (bt : Nat) (M : List (Key × Nd)) (N : Nat) (hT : TreeAt S w bt M N) (hc : Clo M) (s : ByteArray) (hs : s.size ≤ maxLen) (hN : M.length * 16 ≤ 140737488355328) :
    Calls Tryz.prog 120 #[.pointer (some ⟨bt, 0, none⟩), .string s] w (SortedOut (UndL M s) w) := by
  have C1 := tget_any S w bt M N hT s hs
  have HT := Lib.hid hT
  clear hT
  go_enter Tryz.func120, Tryz.ntmps120
  go_wp2_with fail
  refine C1.mono ?_
  rintro e w1 ⟨v, rfl, hv, hE1⟩
  obtain ⟨da, dc, aa, ac, rfl, hD, hA⟩ := hv
  generalize (mget M s.data.toList).getD zeroN = n at *
  clear hD hA
  obtain ⟨W2, hW2⟩ : ∃ W2, W2 = w1.alloc (.cells (ndC n (.slice da n.data.length dc) (.slice aa n.acl.length ac)) 47) := ⟨_, rfl⟩
  have HSET := Lib.hid ((setRow_alloc w1 zeroNd (ndC n (.slice da n.data.length dc) (.slice aa n.acl.length ac)) 47).trans hW2.symm)
  have HNew := Lib.hid (heap_alloc_new w1 (.cells zeroNd 47))
  have hE2 : Ext w1 W2 := by rw [hW2]; exact Ext.alloc _ _
  have hEw2 := hE1.trans hE2
  unfold ndC at HSET ⊢
  unfold zeroNd at HSET HNew
  have HEW := Lib.hid hEw2
  clear C1 hW2 hE1 hE2 hEw2
  cases hg : mget M s.data.toList with
  | none =>
    have hfin : SortedOut (UndL M s) w (.returned (.slice none 0 0)) W2 := by
      have e : UndL M s = [] := by unfold UndL; rw [hg]; rfl
      rw [e]
      exact ⟨_, rfl, World.ownsRow_nil _ _ _ _, by simp, HEW.out⟩
    have HFIN := Lib.hid hfin
    clear hfin hg
    go_wp2_with (refine wpList_store_row rfl 47 (.tmp 5) (.tmp 16) rfl w1.heap.size _ rfl rfl 47 _ HNew.out sizeNd rfl (cells_node n da aa _ _ dc ac) ?_; rw [HSET.out])
    go_ret
    exact HFIN.out
  | some y =>
    have hM := HT.out.ok
    have hys := hM.at hg
    have hmem := mget_some_mem hg
    have hyp : y.path = s := (ba_ext hys.1).symm
    have hu : UndL M s = undK M s := by unfold UndL; rw [hg]; rfl
    have hrow0 : (W2.alloc (.cells #[.string s] 9)).ownsRow W2.heap.size 9 1 (.slice (some ⟨W2.heap.size, 0, none⟩) 1 1) 1 [.string s] := World.ownsRow_lit W2 #[.string s] 1 (Nat.le_refl _) (by unfold maxLen; decide) rfl
    have hB0 : Bfs M s [s] 0 (fun _ => true) := by have := Bfs.start hmem; simpa [hyp] using this
    have hEA : Ext w (W2.alloc (.cells #[.string s] 9)) := HEW.out.trans (Ext.alloc _ _)
    have HB0 := Lib.hid hB0
    have HR0 := Lib.hid hrow0
    have HEA := Lib.hid hEA
    have HG := Lib.hid hg
    have HU := Lib.hid hu
    have hzw := HEW.out.size
    have HM := Lib.hid hM
    have HC := Lib.hid hc
    clear hg hu hrow0 hB0 hEA hmem hys hyp hM hc
    go_wp2_with (refine wpList_store_row rfl 47 (.tmp 5) (.tmp 16) rfl w1.heap.size _ rfl rfl 47 _ HNew.out sizeNd rfl (cells_node n da aa _ _ dc ac) ?_; rw [HSET.out])
    go_loopw [7, 8] (fun lv i wr => ∃ (k : Nat) (l : List ByteArray), i = .int .i64 k ∧ k ≤ l.length ∧ Bfs M s l k (fun _ => true) ∧ wr.ownsRow W2.heap.size 9 1 lv l.length (l.map Value.string) ∧ Ext w wr) (fun _ i _ => M.length - (intOf i).toNat)
    case atStart => exact ⟨0, [s], rfl, Nat.zero_le _, HB0.out, HR0.out, HEA.out⟩
    case round =>
      obtain ⟨k, l, rfl, hkl, hB, hrow, hE⟩ := hrel
      obtain ⟨wo, hwo⟩ : ∃ x, x = wr := ⟨_, rfl⟩
      subst hwo
      have hlM := hB.length_le
      have hl64 : l.length ≤ 9223372036854775807 := by omega
      by_cases hlt : k < l.length
      · have hne : u7 ≠ .slice none 0 0 := fun e => by
          subst e
          rcases hrow.2 with ⟨_, h⟩ | ⟨_, _, _, h, _⟩
          · omega
          · cases h
        obtain ⟨g, cap, hlv, hgb, hgc⟩ : ∃ g cap, u7 = .slice (some ⟨g, 0, none⟩) l.length cap ∧ W2.heap.size ≤ g ∧ wo.cell? ⟨g, k, none⟩ = some (.string l[k]) := by
          rcases hrow.2 with ⟨h, _⟩ | ⟨g, cap, cur, h, hb, _⟩
          · exact absurd h hne
          · refine ⟨g, cap, h, hb, ?_⟩
            have := hrow.cells (g := g) (by rw [h]; rfl) k (.string l[k]) (by rw [List.getElem?_map, List.getElem?_eq_getElem hlt]; rfl)
            rw [addr_add, Nat.zero_add] at this
            exact this
        subst hlv
        have hp : l[k]? = some l[k] := List.getElem?_eq_getElem hlt
        generalize l[k] = p at hgc hp
        obtain ⟨y2, hy2, eyp, _⟩ := hB.mem p (List.mem_of_getElem? hp)
        have hpv := (vpath_facts (right_vpath (HM.out.right y2 hy2))).2.1
        rw [eyp] at hpv
        have hps : p.size ≤ maxLen := by unfold maxLen; omega
        have hTr := HT.out.ext hE
        obtain ⟨bn, bk, mb, hmS, hlook⟩ := hTr.kids_look p hps
        have hG0 : UnG wo mb (kidsOf M p) (fun _ => false) wo.drew := by
          unfold UnG
          simp only [Bool.false_eq_true, if_false]
          exact ⟨Ext.drew _, rfl⟩
        have hsame : ∀ (d : Nat → Bool) (W : World), UnG wo mb (kidsOf M p) d W → Ext wo W := fun d W h => by
          unfold UnG at h
          split at h
          · exact ⟨h.2.1.os, h.2.1.tape, h.2.1.output, h.2.1.size, fun k hk => h.2.1.block k hk (by simp)⟩
          · exact h.1
        have hcell : ∀ (d : Nat → Bool) (W : World), UnG wo mb (kidsOf M p) d W → (∀ k, S k → W.heap[k]? = wo.heap[k]?) ∧ W.cell? ⟨g, k, none⟩ = some (.string p) := fun d W h =>
          ⟨fun k hk => (hsame d W h).block k (hTr.bound k hk), ((hsame d W h).cell (p := ⟨g, k, none⟩) (World.block_lt_of_cell? _ _ hgc)).trans hgc⟩
        have HL := Lib.hid hlook
        have HG0 := Lib.hid hG0
        have HCE := Lib.hid hcell
        have HROW := Lib.hid hrow
        have HBf := Lib.hid hB
        have HE := Lib.hid hE
        have HP := Lib.hid hp
        have HMS := Lib.hid hmS
        have HY2 := Lib.hid (And.intro hy2 eyp)
        clear hlook hG0 hcell hrow hB hE hp hsame hTr hmS hgc hy2 eyp hpv
        have hkL : k < l.length := hlt
        go_wp2
        refine wp_region_P (by kernel_rfl) (region_state_vals 58 (UnG wo mb (kidsOf M p)) HG0.out [.pointer (some ⟨bt, 0, none⟩), .pointer (some ⟨bt, 0, none⟩), .pointer (some ⟨bt, 1, none⟩), .map (some bk), .slice (some ⟨g, 0, none⟩) l.length cap, .int .i64 k, .pointer (some ⟨g, k, none⟩), .string p, .map mb, .pointer (some ⟨wo.heap.size, 0, none⟩)] rfl (by decide) rfl ?duties ?rest)
        case duties =>
          refine ⟨?_, ?_, ?_, ?_, ?_, ?_, ?_, ?_, ?_, ?_, trivial⟩
          · refine dutyS_same (UnG.same (by decide)) fun d a w' hG hF hA => ?_
            have x1 := hF.slot 0 _ (by decide) rfl
            exact ⟨.pointer (some ⟨bt, 0, none⟩), by simp only [execOp, x1]; simp [go_sem], rfl⟩
          · refine dutyS_same (UnG.same (by decide)) fun d a w' hG hF hA => ?_
            have x1 := hA.val 0 28 rfl rfl ⟨⟨0, .data⟩, by simp, rfl, rfl⟩ rfl
            exact ⟨_, ex_nilCheck rfl _ x1, rfl⟩
          · refine dutyS_same (UnG.same (by decide)) fun d a w' hG hF hA => ?_
            have x1 := hA.val 1 29 rfl rfl ⟨⟨1, .data⟩, by simp, rfl, rfl⟩ rfl
            exact ⟨.pointer (some ⟨bt, 1, none⟩), by simp only [execOp, x1]; simp [go_sem], rfl⟩
          · refine dutyS_same (UnG.same (by decide)) fun d a w' hG hF hA => ?_
            have x1 := hA.val 2 30 rfl rfl ⟨⟨2, .data⟩, by simp, rfl, rfl⟩ rfl
            exact ⟨_, ex_cell rfl _ _ x1 ((HL.out w' (HCE.out d w' hG).1).1 1) rfl Tryz.underlying116, rfl⟩
          · refine dutyS_same (UnG.same (by decide)) fun d a w' hG hF hA => ?_
            have x1 := hF.slot 7 _ (by decide) rfl
            exact ⟨.slice (some ⟨g, 0, none⟩) l.length cap, by simp only [execOp, x1]; simp [go_sem], rfl⟩
          · refine dutyS_same (UnG.same (by decide)) fun d a w' hG hF hA => ?_
            have x1 := hF.slot 8 _ (by decide) rfl
            exact ⟨.int .i64 k, by simp only [execOp, x1]; simp [go_sem], rfl⟩
          · refine dutyS_same (UnG.same (by decide)) fun d a w' hG hF hA => ?_
            have x1 := hA.val 4 32 rfl rfl ⟨⟨4, .data⟩, by simp, rfl, rfl⟩ rfl
            have x2 := hA.val 5 33 rfl rfl ⟨⟨5, .data⟩, by simp, rfl, rfl⟩ rfl
            exact ⟨.pointer (some ⟨g, k, none⟩), by simp only [execOp, x1, x2]; simp [go_sem, hkL], rfl⟩
          · refine dutyS_same (UnG.same (by decide)) fun d a w' hG hF hA => ?_
            have x1 := hA.val 6 34 rfl rfl ⟨⟨6, .data⟩, by simp, rfl, rfl⟩ rfl
            exact ⟨_, ex_cell rfl _ _ x1 (HCE.out d w' hG).2 rfl strT, rfl⟩
          · refine dutyS_same (UnG.same (by decide)) fun d a w' hG hF hA => ?_
            have x1 := hA.val 3 31 rfl rfl ⟨⟨3, .data⟩, by simp, rfl, rfl⟩ rfl
            have x2 := hA.val 7 35 rfl rfl ⟨⟨7, .data⟩, by simp, rfl, rfl⟩ rfl
            have hl := (HL.out w' (HCE.out d w' hG).1).2.1
            exact ⟨.map mb, by simp only [execOp, x1, x2]; simp [go_sem, hl], rfl⟩
          · intro d a w' hdi _ _ hG hF hA
            have x1 := hA.val 8 36 rfl rfl ⟨⟨8, .data⟩, by simp, rfl, rfl⟩ rfl
            have hd : d 9 = false := hdi
            obtain ⟨_, _, hmb, hnil, _⟩ := HL.out w' (HCE.out d w' hG).1
            unfold UnG at hG
            rw [if_neg (by rw [hd]; simp)] at hG
            obtain ⟨hEe, hsz⟩ := hG
            have hone : ∃ w4, (Instr.range 161 (.map mb)).run Tryz.prog w' = .ok (.pointer (some ⟨wo.heap.size, 0, none⟩)) w4 ∧ RngAt w4 wo.heap.size mb (kidsOf M p) (fun k => (mget (kidsOf M p) k).isSome) ∧ wo.grownBy w4 none ∧ w4.heap.size = wo.heap.size + 1 := by
              have hgE : wo.grownBy w' none := ⟨hEe.os, hEe.tape, hEe.output, hEe.size, fun k hk _ => hEe.block k hk⟩
              cases hmbc : mb with
              | some b =>
                obtain ⟨w4, h1, h2, h3, h4⟩ := (show w'.ownsMap Tryz.prog 9 Rv b _ _ from hmb b hmbc).range (Maps.string_keyed strT) Tryz.underlying161
                rw [hsz] at h1 h2
                refine ⟨w4, h1, ⟨_, _, fun k => kvD_has _ k, h2⟩, ⟨h3.os.trans hgE.os, h3.tape.trans hgE.tape, h3.output.trans hgE.output, by omega, fun k hk hn => (h3.block k (by omega) hn).trans (hgE.block k hk hn)⟩, by omega⟩
              | none =>
                have h1 := run_range_nilMap (P := Tryz.prog) w' 161 9 180 Tryz.underlying161
                rw [hsz] at h1
                have h3 := hnil hmbc
                refine ⟨_, h1, ⟨h3, fun k => by rw [h3]; rfl, by rw [← hsz]; exact heap_alloc_new w' _⟩, ⟨hgE.os, hgE.tape, hgE.output, by simp; omega, fun k hk hn => (heap_alloc_old w' _ (by omega)).trans (hgE.block k hk hn)⟩, by simp [hsz]⟩
            obtain ⟨w4, h1, h2⟩ := hone
            refine wp_value (w' := w4) (v := .pointer (some ⟨wo.heap.size, 0, none⟩)) (by simp only [execOp, x1]; simp [h1, Result.andThen]) ⟨_, rfl, rfl, ?_⟩
            show UnG wo mb (kidsOf M p) (fun k => d k || k == 9) w4
            unfold UnG
            rw [if_pos (by simp)]
            exact h2
        case rest =>
          intro d W5 hdn hG5
          have h9 := hdn 9 (by decide)
          unfold UnG at hG5
          rw [if_pos h9] at hG5
          obtain ⟨hRg, hgr, hsz5⟩ := hG5
          have hzr := HROW.out.lt g rfl
          have hrow5 := HROW.out.kept hgr (.inr (by simp [Value.ownBlock]))
          have hE5 : Ext w W5 := HE.out.trans ⟨hgr.os, hgr.tape, hgr.output, hgr.size, fun k hk => hgr.block k hk (by simp)⟩
          have hB5 := HBf.out.enter HP.out
          have HRg := Lib.hid hRg
          have HROW5 := Lib.hid hrow5
          have HE5 := Lib.hid hE5
          have HB5 := Lib.hid hB5
          clear hRg hrow5 hE5 hB5 hgr h9 hdn HG0 HL HCE
          simp only [filled, List.zip_cons_cons, List.zip_nil_left, List.foldl_cons, List.foldl_nil, Act.put, List.setIfInBounds_toArray, List.set_cons_succ, List.set_cons_zero, Exit.inBlock, Exit.then]
          rename_i hK
          refine hK _ _ ?_
          clear hK
          go_wp2
          go_loopw [7] (fun lv wr2 => ∃ (l2 : List ByteArray) (left : Key → Bool), l2[k]? = some p ∧ Bfs M s l2 k left ∧ wr2.ownsRow W2.heap.size 9 1 lv l2.length (l2.map Value.string) ∧ RngAt wr2 wo.heap.size mb (kidsOf M p) left ∧ Ext w wr2) (fun _ wr2 => rngLeft mb wo.heap.size wr2)
          case atStart => exact ⟨l, _, HP.out, HB5.out, HROW5.out, HRg.out, HE5.out⟩
          case round =>
            obtain ⟨l2, left, hp2, hB2, hrow2, hRg2, hE2⟩ := hrel
            have hl2M := hB2.length_le
            have hk2 : k < l2.length := (List.getElem?_eq_some_iff.1 hp2).1
            obtain ⟨g2, cap2, hlv2, hgb2⟩ : ∃ g cap, u7 = .slice (some ⟨g, 0, none⟩) l2.length cap ∧ W2.heap.size ≤ g := by
              rcases hrow2.2 with ⟨_, h⟩ | ⟨g, cap, cur, h, hb, _⟩
              · omega
              · exact ⟨g, cap, h, hb⟩
            subst hlv2
            obtain ⟨it1, it2, it3, it4, hit⟩ := hRg2.iter
            have hgr2 : g2 ≠ wo.heap.size := fun e => by
              obtain ⟨c, hc⟩ := ownBlock_at hrow2 g2 rfl
              rw [e, hit] at hc
              cases hc
            have HRW2 := Lib.hid hrow2
            have HB2 := Lib.hid hB2
            have HP2 := Lib.hid hp2
            have HE2 := Lib.hid hE2
            clear hrow2 hB2 hp2 hE2 hit HRg HROW5 HE5 HB5 HROW HBf
            go_wp2_with (at_next; refine wpList_next_any _ rfl _ rfl mb wo.heap.size (kidsOf M p) left rfl hRg2 ?_ ?_)
            · intro hlx
              have hB3 := HB2.out.round HP2.out (fun y hy => hlx y.1)
              have HB3 := Lib.hid hB3
              clear hlx hB3 hRg2
              go_wp2
              go_roundw
              case rel => exact ⟨k + 1, l2, by go_num, by omega, HB3.out, HRW2.out, HE2.out⟩
              case measure => simp [intOf]; omega
            · intro nm nv w6 hnm hln hmg hRg6 hlt6 hg6 hsz6 hen
              obtain ⟨x, hx, hch, he⟩ := mem_kids.1 (mget_some_mem hmg)
              obtain ⟨he1, rfl⟩ := Prod.mk.inj he
              have hMo := HM.out
              have hjn := (join_child hMo hx HY2.out.1 (by rw [HY2.out.2]; exact hch) he1).2
              rw [HY2.out.2] at hjn
              have hps2 : p.size ≤ 140737488355328 := by
                have := (vpath_facts (right_vpath (hMo.right y2 HY2.out.1))).2.1
                rw [HY2.out.2] at this; omega
              have hnm2 : nm.size ≤ 140737488355328 := by
                have h1 := (path_split (right_vpath (hMo.right x hx)) (childOf_iff.1 hch).1).1
                have h2 := (vpath_facts (right_vpath (hMo.right x hx))).2.1
                have h3 := congrArg List.length h1
                rw [List.length_append] at h3
                have h4 : nm.data.toList.length = (nameB x.2.path).data.toList.length := congrArg List.length he1
                rw [← size_list] at h2 ⊢
                omega
              have CJ := join_any p nm w6 hps2 hnm2
              rw [hjn] at CJ
              have hrow6 := HRW2.out.kept hg6 (.inr (by simp [Value.ownBlock]; exact hgr2))
              have hc6 : w6.cell? ⟨g2, k, none⟩ = some (.string p) := by
                have := hrow6.cells (g := g2) rfl k (.string p) (by rw [List.getElem?_map, HP2.out]; rfl)
                rw [addr_add, Nat.zero_add] at this
                exact this
              have hE6 : Ext w w6 := HE2.out.trans' ⟨hg6.os, hg6.tape, hg6.output, hg6.size, fun i hi => hg6.block i (Nat.lt_of_lt_of_le hi HE2.out.size) (fun e => by
                have := Option.some.inj e
                have h1 := HE.out.size
                omega)⟩
              have hBs := HB2.out.step hMo HC.out HP2.out hx hch (by rw [← he1]; exact hln)
              have hxs := (vpath_facts (right_vpath (hMo.right x hx))).2.1
              rw [← he1] at hBs
              have CJ := Lib.hid CJ
              have HRW6 := Lib.hid hrow6
              have HE6 := Lib.hid hE6
              have HBS := Lib.hid hBs
              have HRG6 := Lib.hid hRg6
              have HLT6 := Lib.hid hlt6
              have hk2' : k < l2.length := hk2
              clear hjn hrow6 hE6 hBs hRg6 hlt6 hmg he hch hx hMo hRg2 hg6
              have hl3 := HBS.out.length_le
              rw [List.length_append] at hl3
              simp only [List.length_cons, List.length_nil] at hl3
              go_wp2_with fail
              refine CJ.out.mono ?_
              rintro e w7 ⟨rfl, hb7⟩
              have hE7 : Ext w6 w7 := hb7
              have hrow7 := HRW6.out.kept (ext_grown hE7 none) (.inr (by simp [Value.ownBlock]))
              have hrow8 := hrow7.alloc (.cells #[.string x.2.path] 9)
              have hs1 : Cells (w7.alloc (.cells #[.string x.2.path] 9)).heap.size (w7.alloc (.cells #[.string x.2.path] 9)) (some ⟨w7.heap.size, 0, none⟩) [.string x.2.path] := fun j u hj => by
                refine ⟨_, 0, rfl, by simp, ?_⟩
                rw [Nat.zero_add, cell_of_row _ _ _ _ _ _ (heap_alloc_new w7 _)]
                simpa using hj
              have hsrc : Src Tryz.prog 1 39 (.slice (some ⟨w7.heap.size, 0, none⟩) 1 1) 1 [.string x.2.path] (w7.alloc (.cells #[.string x.2.path] 9)) := hs1.src Tryz.underlying39 1 1 (by simp) (fun u hu => by simp at hu; subst hu; rfl)
              obtain ⟨i0, hi, hz0, hz1', hz2⟩ := strInfo
              obtain ⟨hRg7, hlt7⟩ := HRG6.out.kept (ext_grown hE7 none) (fun _ _ => by simp) (by simp)
              obtain ⟨hRg8, hlt8⟩ := hRg7.kept (World.grownBy_alloc w7 (.cells #[.string x.2.path] 9) none) (fun _ _ => by simp) (by simp)
              have hE8 : Ext w (w7.alloc (.cells #[.string x.2.path] 9)) := (HE6.out.trans hE7).trans (Ext.alloc _ _)
              have hz7 := hE7.size
              have hzE := HE6.out.size
              have hW2z := hrow8.lt g2 rfl
              have HRG8 := Lib.hid hRg8
              have HE8 := Lib.hid hE8
              have HLT8 := Lib.hid (hlt8.trans hlt7)
              clear CJ hb7 hE7 hs1 hRg7 hlt7 hRg8 hlt8 hE8 hrow7 HRG6
              go_wp2_with (at_builtin; refine wpList_append_src _ rfl (.tmp 51) (.tmp 53) 39 39 rfl W2.heap.size 9 i0 (.string ⟨#[]⟩) 1 16 Tryz.underlying39 hi hz0 hz1' hz2 rfl (by decide) _ l2.length _ rfl hrow8 _ 1 _ rfl hsrc ?c1 ?c2 ?c3 ?_)
              case c1 => unfold maxLen; omega
              case c2 => omega
              case c3 => have := hW2z.2; simp at this ⊢; omega
              intro v' w9 hown9 hg9 _ ho9
              have hbrow : ∀ b, mb = some b → some b ≠ (Value.slice (some ⟨g2, 0, none⟩) l2.length cap2).ownBlock := fun b hb e => by
                have h1 := HT.out.bound b (HMS.out b hb)
                have h2 : b = g2 := by simpa [Value.ownBlock] using e
                omega
              obtain ⟨hRg9, hlt9⟩ := HRG8.out.kept hg9 hbrow (by simp [Value.ownBlock]; exact fun e => hgr2 e.symm)
              have hE9 : Ext w w9 := HE8.out.trans' ⟨hg9.os, hg9.tape, hg9.output, hg9.size, fun i hi => hg9.block i (Nat.lt_of_lt_of_le hi HE8.out.size) (fun e => by
                have h2 : i = g2 := by simpa [Value.ownBlock] using e
                omega)⟩
              have hown9' : w9.ownsRow W2.heap.size 9 1 v' (l2 ++ [x.2.path]).length ((l2 ++ [x.2.path]).map Value.string) := by
                simpa using hown9
              have hp9 : (l2 ++ [x.2.path])[k]? = some p := by rw [List.getElem?_append_left hk2']; exact HP2.out
              have hlt : rngLeft mb wo.heap.size w9 < rngLeft mb wo.heap.size wr := by
                rw [hlt9, HLT8.out]; exact HLT6.out
              have HREL := Lib.hid (show ∃ (l2 : List ByteArray) (left : Key → Bool), l2[k]? = some p ∧ Bfs M s l2 k left ∧ w9.ownsRow W2.heap.size 9 1 v' l2.length (l2.map Value.string) ∧ RngAt w9 wo.heap.size mb (kidsOf M p) left ∧ Ext w w9 from ⟨_, _, hp9, HBS.out, hown9', hRg9, hE9⟩)
              have HLT := Lib.hid hlt
              clear hRg9 hlt9 hE9 hown9' hp9 hlt hown9 hg9 ho9 hsrc hrow8 hbrow hen
              go_wp2
              go_roundw
              case rel => exact HREL.out
              case measure => exact HLT.out
      · obtain rfl : k = l.length := by omega
        rcases hrow.2 with ⟨_, h0⟩ | ⟨g, cap, cur, rfl, hbase, hb, h1, h2, h3, h4⟩
        · have := hB.head
          rw [List.eq_nil_of_length_eq_zero h0] at this
          simp at this
        have h4' : cur.toList.take (l.map fun p => p.data.toList).length = (l.map fun p => p.data.toList).map encStr := by
          rw [List.length_map, List.map_map, ← Nat.mul_one l.length, h4]
          refine List.map_congr_left fun p _ => ?_
          simp [encStr]
        have hsrt := hB.sorted HM.out HC.out
        have CS : Calls Tryz.prog 156 #[.slice (some ⟨g, 0, none⟩) l.length cap] wo fun e w' => e = .returned (.tuple #[]) ∧ ∃ n os, w' = grow (putRow encStr (Sort.ahead wo n) g 0 ((l.map fun p => p.data.toList).mergeSort fun x y => decide (x ≤ y)).toArray) os := by
          have := AnyM.slices_Sort_string Tryz.sortS g 0 cap (l.map fun p => p.data.toList) wo (holds_of_block hb h4') (Array.getElem?_eq_some_iff.1 hb).1 (by rw [List.length_map]; omega)
          rw [List.length_map] at this
          exact this
        rw [hsrt] at CS
        have hul : (undK M s).length = (l.map fun p => p.data.toList).length := by rw [← hsrt, List.length_mergeSort]
        have hlm : (l.map fun p => p.data.toList).length = l.length := List.length_map _
        have hfin : ∀ n os, SortedOut (UndL M s) w (.returned (.slice (some ⟨g, 0, none⟩) l.length cap)) (grow (putRow encStr (Sort.ahead wo n) g 0 (undK M s).toArray) os) := fun n os => by
          rw [HU.out]
          have h5 := ownsRow_sorted (n := n) (os := os) hul hbase hb (by rw [hlm]; exact h1) h2 h3
          rw [hlm, ← hlm, ← hul] at h5
          have hpos : 0 < l.length := List.length_pos_of_mem hB.head
          have hE9 := grownBy_sorted (n := n) (os := os) (w := wo) (g := g) (undK M s).toArray
          refine ⟨_, by rw [← hlm, ← hul], ownsRow_base_a h5 (by have := HEW.out.size; omega), ⟨fun e => (by cases e), fun e => (by rw [e] at hul; rw [hlm] at hul; simp at hul; omega)⟩, hE.trans' ⟨hE9.os, hE9.tape, hE9.output, hE9.size, fun i hi => hE9.block i (Nat.lt_of_lt_of_le hi hE.size) (fun e => by
            have := Option.some.inj e
            have := HEW.out.size
            omega)⟩⟩
        have CS := Lib.hid CS
        have HFIN := Lib.hid hfin
        clear hfin hul hsrt h4' h4 hb hB hE hrow
        go_wp2_with fail
        refine CS.out.mono ?_
        rintro e w8 ⟨rfl, n, os, rfl⟩
        clear CS
        go_wp2
        go_ret
        exact HFIN.out n os
end Go.Proofs.YtamolbegmkngdaaGreatDoor
namespace Go.Proofs.YtamolbegmkngdaaGreatDoor
open Go.RowKit Go.Sort
set_option maxHeartbeats 2000000
set_option maxRecDepth 100000
attribute [local go_sem] Oper.semAt_some

/-- What Below hands back: a function that tells nodes; which: by another one. -/
def SeqB (bt x y : Nat) (w : World) (e : Ending) (w' : World) : Prop :=
  ∃ bw btb, e = .returned (.func (.func 159) #[] #[.pointer (some ⟨bw, 0, none⟩), .pointer (some ⟨btb, 0, none⟩)]) ∧
    w'.cell? ⟨bw, 0, none⟩ = some (.func (.func 123) #[] #[.pointer (some ⟨x, 0, none⟩), .pointer (some ⟨y, 0, none⟩)]) ∧ w'.cell? ⟨btb, 0, none⟩ = some (.pointer (some ⟨bt, 0, none⟩)) ∧ Ext w w'

theorem toldB_any (bt x y : Nat) (w : World) : Calls Tryz.prog 121 #[.pointer (some ⟨bt, 0, none⟩), .func (.func 123) #[] #[.pointer (some ⟨x, 0, none⟩), .pointer (some ⟨y, 0, none⟩)]] w (SeqB bt x y w) := by
  have h1 : ∀ t u, ((w.alloc (.cells #[Value.pointer (some ⟨bt, 0, none⟩)] t)).alloc (.cells #[Value.func (.func 123) #[] #[.pointer (some ⟨x, 0, none⟩), .pointer (some ⟨y, 0, none⟩)]] u)).cell? ⟨w.heap.size, 0, none⟩ = some (.pointer (some ⟨bt, 0, none⟩)) := fun t u =>
    cell_of_row _ _ _ _ _ _ ((heap_alloc_old _ _ (by simp)).trans (heap_alloc_new w _))
  have h2 : ∀ t u, ((w.alloc (.cells #[Value.pointer (some ⟨bt, 0, none⟩)] t)).alloc (.cells #[Value.func (.func 123) #[] #[.pointer (some ⟨x, 0, none⟩), .pointer (some ⟨y, 0, none⟩)]] u)).cell? ⟨w.heap.size + 1, 0, none⟩ = some (.func (.func 123) #[] #[.pointer (some ⟨x, 0, none⟩), .pointer (some ⟨y, 0, none⟩)]) := fun t u =>
    cell_of_row _ _ _ _ _ _ (by have := heap_alloc_new (w.alloc (.cells #[Value.pointer (some ⟨bt, 0, none⟩)] t)) (.cells #[Value.func (.func 123) #[] #[.pointer (some ⟨x, 0, none⟩), .pointer (some ⟨y, 0, none⟩)]] u); rwa [World.size_alloc] at this)
  have H1 := Lib.hid h1
  have H2 := Lib.hid h2
  clear h1 h2
  go_enter Tryz.func121, Tryz.ntmps121
  go_wp2
  go_ret
  exact ⟨_, _, rfl, H2.out _ _, H1.out _ _, (Ext.alloc w _).trans (Ext.alloc _ _)⟩

/-- The function, and the cells it looks at. -/
def BelOut (bt : Nat) (s : ByteArray) (w : World) (e : Ending) (w' : World) : Prop :=
  ∃ x y, SeqB bt x y w e w' ∧ w'.cell? ⟨x, 0, none⟩ = some (.pointer (some ⟨bt, 0, none⟩)) ∧ w'.cell? ⟨y, 0, none⟩ = some (.string s)

theorem tbelow_any (bt : Nat) (s : ByteArray) (w : World) : Calls Tryz.prog 62 #[.pointer (some ⟨bt, 0, none⟩), .string s] w (BelOut bt s w) := by
  have h1 : ∀ t u, ((w.alloc (.cells #[Value.pointer (some ⟨bt, 0, none⟩)] t)).alloc (.cells #[Value.string s] u)).cell? ⟨w.heap.size, 0, none⟩ = some (.pointer (some ⟨bt, 0, none⟩)) := fun t u =>
    cell_of_row _ _ _ _ _ _ ((heap_alloc_old _ _ (by simp)).trans (heap_alloc_new w _))
  have h2 : ∀ t u, ((w.alloc (.cells #[Value.pointer (some ⟨bt, 0, none⟩)] t)).alloc (.cells #[Value.string s] u)).cell? ⟨w.heap.size + 1, 0, none⟩ = some (.string s) := fun t u =>
    cell_of_row _ _ _ _ _ _ (by have := heap_alloc_new (w.alloc (.cells #[Value.pointer (some ⟨bt, 0, none⟩)] t)) (.cells #[Value.string s] u); rwa [World.size_alloc] at this)
  have H1 := Lib.hid h1
  have H2 := Lib.hid h2
  clear h1 h2
  have C1 := fun W => toldB_any bt w.heap.size (w.heap.size + 1) W
  go_enter Tryz.func62, Tryz.ntmps62
  go_wp2_with fail
  refine (C1 _).mono ?_
  rintro e w1 ⟨bw, btb, rfl, k1, k2, hE⟩
  have hfin : BelOut bt s w (.returned (.func (.func 159) #[] #[.pointer (some ⟨bw, 0, none⟩), .pointer (some ⟨btb, 0, none⟩)])) w1 :=
    ⟨w.heap.size, w.heap.size + 1, ⟨_, _, rfl, k1, k2, ((Ext.alloc w _).trans (Ext.alloc _ _)).trans hE⟩, (hE.cell (p := ⟨w.heap.size, 0, none⟩) (by simp; omega)).trans (H1.out _ _), (hE.cell (p := ⟨w.heap.size + 1, 0, none⟩) (by simp)).trans (H2.out _ _)⟩
  have HFIN := Lib.hid hfin
  clear hfin k1 k2 hE C1
  go_wp2
  go_ret
  exact HFIN.out

theorem below1_any (S : Nat → Prop) (w : World) (bt x y : Nat) (M : List (Key × Nd)) (N : Nat) (hT : TreeAt S w bt M N) (hc : Clo M) (s : ByteArray) (hs : s.size ≤ maxLen) (hN : M.length * 16 ≤ 140737488355328)
    (hx : w.cell? ⟨x, 0, none⟩ = some (.pointer (some ⟨bt, 0, none⟩))) (hy : w.cell? ⟨y, 0, none⟩ = some (.string s)) :
    Calls Tryz.prog 123 #[.pointer (some ⟨x, 0, none⟩), .pointer (some ⟨y, 0, none⟩)] w (SortedOut (UndL M s) w) := by
  have C1 := Lib.hid (under_any S w bt M N hT hc s hs hN)
  clear hT hc
  go_enter Tryz.func123, Tryz.ntmps123
  go_wp2_with fail
  refine C1.out.mono ?_
  rintro e w1 ⟨v, rfl, h1, h2, h3⟩
  have hfin : SortedOut (UndL M s) w (.returned v) w1 := ⟨v, rfl, h1, h2, h3⟩
  have HFIN := Lib.hid hfin
  clear hfin h1 h2 h3 C1 hx hy
  go_wp2
  go_ret
  exact HFIN.out

set_option maxHeartbeats 4000000 in
theorem lbelow_any (S : Nat → Prop) (w : World) (bt : Nat) (M : List (Key × Nd)) (N : Nat) (hT : TreeAt S w bt M N) (hc : Clo M) (s : ByteArray) (hs : s.size ≤ maxLen) (most : Nat) (hmost : most < maxLen) (hks : M.length * 168 ≤ 140737488355328) (hkl : ∀ k ∈ UndL M s, k.length ≤ maxLen) (hlen : (UndL M s).length ≤ M.length) :
    Calls Tryz.prog 94 #[.pointer (some ⟨bt, 0, none⟩), .string s, .int .i64 most] w (AllOut ((nodesOf M (UndL M s)).take (most + 1)) w) := by
  have HT := Lib.hid hT
  clear hT
  refine (callsIn_wide (n := 6)).1 (callsIn_of_wp_marks Tryz.func94 rfl trivial ?_)
  simp only [Tryz.ntmps94, List.size_toArray, List.length_cons, List.length_nil, Nat.reduceAdd, Nat.reduceSub, Array.replicate_succ, Array.replicate_zero, List.push_toArray, List.append_toArray, List.nil_append, List.cons_append]
  gi_wp2_with fail
  refine ⟨trivial, (callsIn_wide.2 (tbelow_any bt s _)).mono ?_⟩
  rintro e W1 ⟨cx, cy, ⟨bw, btb, rfl, hcw, hct, hE1⟩, hcx, hcy⟩
  have hbx : ((w.alloc (.cells #[.int .i64 most] 3)).alloc (.cells #[.slice none 0 0] 22)).heap[w.heap.size + 1]? = some (.cells #[.slice none 0 0] 22 (0, 0)) := by
    have := heap_alloc_new (w.alloc (.cells #[.int .i64 most] 3)) (.cells #[.slice none 0 0] 22)
    rwa [World.size_alloc] at this
  have hbm : ((w.alloc (.cells #[.int .i64 most] 3)).alloc (.cells #[.slice none 0 0] 22)).heap[w.heap.size]? = some (.cells #[.int .i64 most] 3 (0, 0)) :=
    (heap_alloc_old _ _ (by simp)).trans (heap_alloc_new w _)
  have hbx1 := (hE1.block _ (Array.getElem?_eq_some_iff.1 hbx).1).trans hbx
  have hbm1 := (hE1.block _ (Array.getElem?_eq_some_iff.1 hbm).1).trans hbm
  have hEw : Ext w W1 := ((Ext.alloc w _).trans (Ext.alloc _ _)).trans hE1
  have hz1 := hE1.size
  simp only [World.size_alloc] at hz1
  have hT1 := HT.out.ext hEw
  have hbd := HT.out.bound
  have hI0 : AllI W1.heap.size (w.heap.size + 1) w.heap.size w most [] [] (.slice none 0 0) W1 :=
    ⟨rfl, hbx1, hbm1, World.ownsRow_nil _ _ _ _, by simp, Nat.le_refl _, hEw⟩
  have hs1 : ∀ k, S k → SafeO (w.heap.size + 1) W1 k := fun k hk => ⟨by have := hbd k hk; omega, _, cell_of_row _ _ _ _ _ _ hbx1, by simp [Value.ownBlock]⟩
  have hOk := hT1.ok
  have TT := told_tells (SafeO (w.heap.size + 1)) S W1 bt M N hT1 hs1 bw btb 123 #[] #[.pointer (some ⟨cx, 0, none⟩), .pointer (some ⟨cy, 0, none⟩)] hcw hct (enters_of Tryz.func123 (by kernel_rfl) rfl) (UndL M s)
    (fun W hW => below1_any S W bt cx cy M N (hT1.ext hW) hc s hs (by omega) ((hW.cell (p := ⟨cx, 0, none⟩) (World.block_lt_of_cell? _ _ hcx)).trans hcx) ((hW.cell (p := ⟨cy, 0, none⟩) (World.block_lt_of_cell? _ _ hcy)).trans hcy)) (by omega) hkl
  have TT := Lib.hid TT
  have hnn := told_not_nil #[.pointer (some ⟨bw, 0, none⟩), .pointer (some ⟨btb, 0, none⟩)] W1
  have HI0 := Lib.hid hI0
  clear hbx hbm hbx1 hbm1 hE1 hT1 hbd hs1 hI0 hcw hct HT hEw hcx hcy
  generalize UndL M s = ks at *
  gi_wp2
  refine wpIn_tells rfl (by omega) (gf := 159) (lb := #[.pointer (some ⟨bw, 0, none⟩), .pointer (some ⟨btb, 0, none⟩)]) rfl trivial (enters_of Tryz.func159 (by kernel_rfl) rfl) TT.out (fun _ => rfl)
    (AllR (w.heap.size + 1) w.heap.size W1.heap.size w most) (AllX (w.heap.size + 1) w.heap.size W1.heap.size w most)
    (AllA fun p c => { tmps := #[.pointer (some ⟨bt, 0, none⟩), .string s, .int .i64 most, undef, undef, .pointer (some ⟨w.heap.size, 0, none⟩), .slice none 0 0, .pointer (some ⟨w.heap.size + 1, 0, none⟩), .func (.func 159) #[] #[.pointer (some ⟨bw, 0, none⟩), .pointer (some ⟨btb, 0, none⟩)], p, .pointer (some ⟨bt, 0, none⟩), .string s, .func (.func 159) #[] #[.pointer (some ⟨bw, 0, none⟩), .pointer (some ⟨btb, 0, none⟩)], .func (.func 159) #[] #[.pointer (some ⟨bw, 0, none⟩), .pointer (some ⟨btb, 0, none⟩)], .bool false, .func (.func 159) #[] #[.pointer (some ⟨bw, 0, none⟩), .pointer (some ⟨btb, 0, none⟩)], c, undef, undef, undef, undef, undef, undef, undef, undef, undef], defers := [] })
    (fun A X Y B h1 h2 h3 => keepS_turn h1 h2 h3) ?hI ?hIx (fun x X Y h1 h2 => gs_turn h1 h2) ?hAx ⟨[], _, HI0.out, Nat.zero_le _⟩ ?assign ?body ?done ?stop
  case hI =>
    rintro pre X Y ⟨vs, v, h, hl⟩ hT
    obtain ⟨h1, h2, h3⟩ := allI_turn h hT (by omega) (by omega)
    exact ⟨⟨vs, v, h1, hl⟩, h2, h3⟩
  case hIx =>
    rintro c pre X Y ⟨hc, vs, v, h, hl⟩ hT
    exact ⟨hc, vs, v, (allI_turn h hT (by omega) (by omega)).1, hl⟩
  case hAx =>
    rintro x a' X Y ⟨bl, cs, h1, h2, h3⟩ hT
    exact ⟨bl, cs, h1, hT.cells h2, h3⟩
  case assign =>
    rintro l pre ⟨xv, n⟩ W K ⟨vs, v, hI, hl⟩ hG hK
    obtain ⟨da, dc, aa, ac, e, _⟩ := hG
    dsimp only at e
    subst e
    obtain ⟨W2, hW2⟩ : ∃ W2, W2 = W.alloc (.cells (ndC n (.slice da n.data.length dc) (.slice aa n.acl.length ac)) 47) := ⟨_, rfl⟩
    have hax := hK _ W2 (by rw [hW2]; exact Ext.alloc _ _) ⟨W.heap.size, _, rfl, by rw [hW2]; exact heap_alloc_new W _, rfl⟩
    have HSET := Lib.hid ((setRow_alloc W zeroNd (ndC n (.slice da n.data.length dc) (.slice aa n.acl.length ac)) 47).trans hW2.symm)
    have HNew := Lib.hid (heap_alloc_new W (.cells zeroNd 47))
    have HAX := Lib.hid hax
    unfold ndC at HSET HAX ⊢
    unfold zeroNd at HSET HNew
    clear hK hI hW2 hax TT HI0
    gi_wp2_with (refine wpListIn_store_row (fun _ => trivial) rfl 47 (.tmp 9) (.tmp 16) rfl W.heap.size _ rfl rfl 47 _ HNew.out sizeNd rfl (cells_node n da aa _ _ dc ac) ?_; rw [HSET.out])
    exact HAX.out
  case body =>
    rintro l pre ⟨xv, n⟩ a' W hl0 _ ⟨rest, hSp⟩ ⟨vs, v, hI, hl⟩ hG ⟨bl, cs, e, hbl, rfl⟩
    dsimp only at e
    subst e
    have hG2 := hG
    obtain ⟨da, dc, aa, ac, e, _⟩ := hG
    simp only [Value.agg.injEq] at e
    subst e
    have hpl : pre.length + 1 ≤ M.length := by
      have := congrArg List.length hSp
      simp [nodesOf] at this
      omega
    have hv : W.cell? ⟨w.heap.size + 1, 0, none⟩ = some v := cell_of_row _ _ _ _ _ _ hI.box
    have hs17 : Cells (W.alloc (.cells (ndC n (.slice da n.data.length dc) (.slice aa n.acl.length ac)) 47)).heap.size (W.alloc (.cells (ndC n (.slice da n.data.length dc) (.slice aa n.acl.length ac)) 47)) (some ⟨W.heap.size, 0, none⟩) (ndC n (.slice da n.data.length dc) (.slice aa n.acl.length ac)).toList := fun j u hj => by
      refine ⟨_, 0, rfl, by simp, ?_⟩
      rw [Nat.zero_add, cell_of_row _ _ _ _ _ _ (heap_alloc_new W _)]
      simpa using hj
    have hsrc : Src Tryz.prog 17 22 (.slice (some ⟨W.heap.size, 0, none⟩) 1 1) 1 (ndC n (.slice da n.data.length dc) (.slice aa n.acl.length ac)).toList (W.alloc (.cells (ndC n (.slice da n.data.length dc) (.slice aa n.acl.length ac)) 47)) :=
      hs17.src Tryz.underlying22 1 1 (by simp [ndC]) (fun u hu => by
        have := cells_node n da aa n.data.length n.acl.length dc ac
        rw [← Array.all_toList] at this
        exact List.all_eq_true.1 this u hu)
    obtain ⟨i0, hi, hz0, hz1', hz2⟩ := info_parts infoNd
    have hownA := hI.row.alloc (.cells (ndC n (.slice da n.data.length dc) (.slice aa n.acl.length ac)) 47)
    have hszB := hI.size
    have HI := Lib.hid hI
    have HG := Lib.hid hG2
    have HBL := Lib.hid hbl
    unfold ndC at hsrc hownA HBL
    clear hs17 TT HI0 hI hG2 hbl
    gi_wp2_with (first | (refine wpListIn_load_row (fun _ => trivial) rfl 47 (.tmp 9) rfl bl rfl 47 _ (0, 0) _ HBL.out Tryz.underlying47 rfl sizeNd ?_) | (gi_at_builtin; refine wpListIn_append_src (fun _ => trivial) rfl (.tmp 17) (.tmp 19) 22 22 rfl W1.heap.size 47 i0 (.agg zeroNd) 17 168 Tryz.underlying22 hi hz0 hz1' hz2 rfl (by decide) _ pre.length _ rfl hownA _ 1 _ rfl hsrc ?c1 ?c2 ?c3 ?_))
    case c1 => unfold maxLen at *; omega
    case c2 => omega
    case c3 => first | omega | (simp; omega)
    intro v' w5 hown5 hg5 _ ho5
    rw [show [Value.string n.path, .slice da n.data.length dc, .slice aa n.acl.length ac, .int .i64 n.owner, .int .i64 n.czxid, .int .i64 n.mzxid, .int .i64 n.pzxid, .int .i64 n.azxid, .int .i64 n.qzxid, .int .i64 n.ctime, .int .i64 n.mtime, .int .i32 n.version, .int .i32 n.creates, .int .i32 n.aversion, .bool n.has, .int .i64 n.count, .int .i64 n.bytes] = (ndC n (.slice da n.data.length dc) (.slice aa n.acl.length ac)).toList from rfl] at hown5
    obtain ⟨hI6, hR6, hK6, hbo5⟩ := allI_step HI.out (by omega) (by omega) (by omega) (by omega) HG.out hown5 hg5 ho5
    obtain ⟨la, lc, rfl, _⟩ := ownsRow_from hown5
    have hv6 : (w5.setRow (w.heap.size + 1) #[.slice la (pre.length + 1) lc]).cell? ⟨w.heap.size + 1, 0, none⟩ = some (.slice la (pre.length + 1) lc) := cell_of_row _ _ _ _ _ _ hI6.box
    have hm6 : (w5.setRow (w.heap.size + 1) #[.slice la (pre.length + 1) lc]).cell? ⟨w.heap.size, 0, none⟩ = some (.int .i64 most) := cell_of_row _ _ _ _ _ _ hI6.lim
    obtain ⟨W6, hW6⟩ : ∃ W6, W6 = w5.setRow (w.heap.size + 1) #[.slice la (pre.length + 1) lc] := ⟨_, rfl⟩
    rw [← hW6] at hv6 hm6 hI6 hR6 hK6
    have HW6 := Lib.hid hW6
    have HB5 := Lib.hid hbo5
    have HI6 := Lib.hid hI6
    have HR6 := Lib.hid hR6
    have HK6 := Lib.hid hK6
    clear hW6 hbo5 hI6 hR6 hK6 hown5 hg5 ho5 hsrc hownA hv
    refine wpListIn_skipped (fun _ => trivial) rfl (fun c h => by cases h) (run_store_one 22 (.tmp 7) (.tmp 20) rfl (w.heap.size + 1) (.slice la (pre.length + 1) lc) rfl rfl rfl 22 v HB5.out infoSl) ?_
    rw [← HW6.out]
    gi_wp2
    · exact ⟨HR6.out, rfl, _, _, HI6.out, by simp; omega⟩
    · exact ⟨HR6.out, HK6.out, _, _, HI6.out, by simp; omega⟩
  case done =>
    rintro D xs W hD hS ⟨vs, v, hI, hl⟩ hK
    have hv : W.cell? ⟨w.heap.size + 1, 0, none⟩ = some v := cell_of_row _ _ _ _ _ _ hI.box
    have hfin := allOut_of (allI_turn hI (Turn.putObj (.deferred none) hD hK rfl) (by omega) (by omega)).1 (by omega) hS
    rw [← List.take_of_length_le (l := nodesOf M ks) (i := most + 1) (by rw [← hS]; simp; omega)] at hfin
    have HFIN := Lib.hid hfin
    have HK := Lib.hid hK
    clear hfin hK hI hS TT HI0
    gi_wp2
    refine ⟨by simp, .inl ⟨_, _, rfl, run_takeDeferred HK.out, ?_⟩⟩
    refine ⟨_, results_tmp rfl _ _ _, ?_⟩
    exact HFIN.out
  case stop =>
    rintro D c pre W hD ⟨rest, hS⟩ ⟨rfl, vs, v, hI, hl⟩ hK
    have hv : W.cell? ⟨w.heap.size + 1, 0, none⟩ = some v := cell_of_row _ _ _ _ _ _ hI.box
    have hfin := allOut_of (allI_turn hI (Turn.putObj (.deferred none) hD hK rfl) (by omega) (by omega)).1 (by omega) (ns := (nodesOf M ks).take (most + 1)) (by rw [← hS, List.take_append_of_le_length (by simp [hl]), List.take_of_length_le (by simp [hl])])
    have HFIN := Lib.hid hfin
    have HK := Lib.hid hK
    clear hfin hK hI hS TT HI0
    gi_wp2
    refine ⟨by simp, .inl ⟨_, _, rfl, run_takeDeferred HK.out, ?_⟩⟩
    refine ⟨_, results_tmp rfl _ _ _, ?_⟩
    exact HFIN.out
end Go.Proofs.YtamolbegmkngdaaGreatDoor
namespace Go.Proofs.YtamolbegmkngdaaGreatDoor
open Go.RowKit Go.Sort
set_option maxHeartbeats 2000000
set_option maxRecDepth 100000

theorem zeroNd_one : zeroNd.all (·.oneCell') = true := by simp [zeroNd, Value.oneCell']
theorem setRow_self (w : World) (z : Array Value) (t : TypeId) : (w.alloc (.cells z t)).setRow w.heap.size z = w.alloc (.cells z t) := setRow_alloc w z z t

theorem tget_nil (s : ByteArray) (w : World) : Calls Tryz.prog 38 #[.pointer none, .string s] w fun e w' => e = .returned (.tuple #[.agg zeroNd, .bool false]) ∧ Ext w w' := by
  have HS := Lib.hid (setRow_self w zeroNd 47)
  have HNew := Lib.hid (heap_alloc_new w (.cells zeroNd 47))
  have HNew2 := Lib.hid (heap_alloc_new w (.cells zeroNd 47))
  unfold zeroNd at HS HNew
  go_enter Tryz.func38, Tryz.ntmps38
  go_wp2_with (refine wpList_store_row rfl 47 (.tmp 4) (.tmp 10) rfl w.heap.size _ rfl rfl 47 _ HNew.out sizeNd rfl zeroNd_one ?_; rw [HS.out])
  refine bodyPost_ret (v := .tuple #[.agg zeroNd, .bool false]) ?_ rfl ⟨rfl, Ext.alloc _ _⟩
  exact results_cell_row2 (p := 4) (q := 5) (ty := 47) rfl _ _ w.heap.size 47 _ (0, 0) _ _ rfl rfl HNew2.out Tryz.underlying47 rfl sizeNd

theorem tafter_nil (s : ByteArray) (w : World) : Calls Tryz.prog 59 #[.pointer none, .string s] w fun e w' => e = .returned (.tuple #[.agg zeroNd, .bool false]) ∧ Ext w w' := by
  have HS := Lib.hid (setRow_self w zeroNd 47)
  have HNew := Lib.hid (heap_alloc_new w (.cells zeroNd 47))
  have HNew2 := Lib.hid (heap_alloc_new w (.cells zeroNd 47))
  unfold zeroNd at HS HNew
  go_enter Tryz.func59, Tryz.ntmps59
  go_wp2_with (refine wpList_store_row rfl 47 (.tmp 4) (.tmp 11) rfl w.heap.size _ rfl rfl 47 _ HNew.out sizeNd rfl zeroNd_one ?_; rw [HS.out])
  refine bodyPost_ret (v := .tuple #[.agg zeroNd, .bool false]) ?_ rfl ⟨rfl, Ext.alloc _ _⟩
  exact results_cell_row2 (p := 4) (q := 5) (ty := 47) rfl _ _ w.heap.size 47 _ (0, 0) _ _ rfl rfl HNew2.out Tryz.underlying47 rfl sizeNd

theorem zeroStat_one' : zeroStat.all (·.oneCell') = true := by simp [zeroStat, Value.oneCell']
theorem tstat_nil (s : ByteArray) (w : World) : Calls Tryz.prog 57 #[.pointer none, .string s] w fun e w' => e = .returned (.tuple #[.agg zeroStat, .int .i64 70]) ∧ Ext w w' := by
  have C1 := Lib.hid (tget_nil s (w.alloc (.cells zeroStat 93)))
  have HNs := Lib.hid (heap_alloc_new w (.cells zeroStat 93))
  have HEs := Lib.hid (Ext.alloc w (.cells zeroStat 93))
  obtain ⟨W0, hW0⟩ : ∃ W0, W0 = w.alloc (.cells zeroStat 93) := ⟨_, rfl⟩
  rw [← hW0] at C1 HNs HEs
  have HW0 := Lib.hid hW0
  unfold zeroStat at HW0
  have hz0 : W0.heap.size = w.heap.size + 1 := by rw [hW0]; simp
  clear hW0
  go_enter Tryz.func57, Tryz.ntmps57
  go_wp2_with fail
  rw [← HW0.out]
  refine C1.out.mono ?_
  rintro e w1 ⟨rfl, hE1⟩
  have hE1 : Ext W0 w1 := hE1
  have hz1 := hE1.size
  have HS := Lib.hid (setRow_self w1 zeroNd 47)
  have HNew := Lib.hid (heap_alloc_new w1 (.cells zeroNd 47))
  obtain ⟨W2, hW2⟩ : ∃ W2, W2 = w1.alloc (.cells zeroNd 47) := ⟨_, rfl⟩
  have hE2 : Ext w1 W2 := by rw [hW2]; exact Ext.alloc _ _
  have hs2 := ((hE1.trans hE2).block w.heap.size (by omega)).trans HNs.out
  rw [← hW2] at HS HNew
  have hS' := HS.out
  have HST := Lib.hid hs2
  have HST2 := Lib.hid hs2
  have HE2 := Lib.hid (HEs.out.trans (hE1.trans hE2))
  have HW2 := Lib.hid hW2
  unfold zeroNd at HS HW2 HNew
  unfold zeroStat at HST
  rw [HW2.out] at HNew
  have hR4 := setRow_heap W2 w.heap.size _ zeroStat 93 (0, 0) HST2.out
  have HR4 := Lib.hid hR4
  have HFIN := Lib.hid (show Ext w (W2.setRow w.heap.size zeroStat) from HE2.out.trans' ⟨rfl, rfl, rfl, by simp, fun k hk => setRow_other _ _ _ _ (by omega)⟩)
  clear C1 hE1 hE2 hs2 hW2 hS' hR4
  unfold zeroNd
  go_wp2_with (first | (refine wpList_store_row rfl 47 (.tmp 6) (.tmp 12) rfl w1.heap.size _ rfl rfl 47 _ HNew.out sizeNd rfl zeroNd_one ?_; rw [← HW2.out, HS.out]) | (refine wpList_store_row rfl 93 (.tmp 4) (.tmp 16) rfl w.heap.size _ rfl rfl 93 _ HST.out sizeStat rfl zeroStat_one' ?_))
  refine bodyPost_ret (v := .tuple #[.agg zeroStat, .int .i64 70]) ?_ rfl ⟨rfl, HFIN.out⟩
  exact results_cell_row2 (p := 4) (q := 5) (ty := 93) rfl _ _ w.heap.size 93 _ (0, 0) _ _ rfl rfl HR4.out Tryz.underlying93 rfl sizeStat

/-- What is behind the look into a nil tree. -/
theorem tchildren_nil (s : ByteArray) (w : World) : Calls Tryz.prog 58 #[.pointer none, .string s] w fun e w' => e = .returned (.tuple #[.slice none 0 0, .int .i64 70]) ∧ Ext w w' := by
  have C1 := Lib.hid (tget_nil s w)
  go_enter Tryz.func58, Tryz.ntmps58
  go_wp2_with fail
  refine C1.out.mono ?_
  rintro e w1 ⟨rfl, hE1⟩
  have HS := Lib.hid (setRow_self w1 zeroNd 47)
  have HNew := Lib.hid (heap_alloc_new w1 (.cells zeroNd 47))
  have HFIN := Lib.hid (hE1.trans (Ext.alloc w1 (.cells zeroNd 47)))
  unfold zeroNd at HS HNew HFIN ⊢
  clear C1 hE1
  go_wp2_with (refine wpList_store_row rfl 47 (.tmp 6) (.tmp 12) rfl w1.heap.size _ rfl rfl 47 _ HNew.out sizeNd rfl zeroNd_one ?_; rw [HS.out])
  go_ret2
  exact ⟨rfl, HFIN.out⟩

theorem tunder_nil (s : ByteArray) (w : World) : Calls Tryz.prog 120 #[.pointer none, .string s] w fun e w' => e = .returned (.slice none 0 0) ∧ Ext w w' := by
  have C1 := Lib.hid (tget_nil s w)
  go_enter Tryz.func120, Tryz.ntmps120
  go_wp2_with fail
  refine C1.out.mono ?_
  rintro e w1 ⟨rfl, hE1⟩
  have HS := Lib.hid (setRow_self w1 zeroNd 47)
  have HNew := Lib.hid (heap_alloc_new w1 (.cells zeroNd 47))
  have HFIN := Lib.hid (hE1.trans (Ext.alloc w1 (.cells zeroNd 47)))
  unfold zeroNd at HS HNew HFIN ⊢
  clear C1 hE1
  go_wp2_with (refine wpList_store_row rfl 47 (.tmp 5) (.tmp 16) rfl w1.heap.size _ rfl rfl 47 _ HNew.out sizeNd rfl zeroNd_one ?_; rw [HS.out])
  go_ret
  exact ⟨rfl, HFIN.out⟩

theorem tweigh_nil (s : ByteArray) (w : World) : Calls Tryz.prog 60 #[.pointer none, .string s] w fun e w' => e = .returned (.tuple #[.int .i64 0, .int .i64 0, .int .i64 70]) ∧ Ext w w' := by
  have C1 := Lib.hid (tunder_nil s w)
  go_enter Tryz.func60, Tryz.ntmps60
  go_wp2_with fail
  refine C1.out.mono ?_
  rintro e w1 ⟨rfl, hE1⟩
  have HE := Lib.hid hE1
  clear C1 hE1
  go_wp2
  go_ret3
  exact ⟨rfl, HE.out⟩

theorem below1_nil (s : ByteArray) (x y : Nat) (w : World) (hx : w.cell? ⟨x, 0, none⟩ = some (.pointer none)) (hy : w.cell? ⟨y, 0, none⟩ = some (.string s)) : Calls Tryz.prog 123 #[.pointer (some ⟨x, 0, none⟩), .pointer (some ⟨y, 0, none⟩)] w fun e w' => e = .returned (.slice none 0 0) ∧ Ext w w' := by
  have C1 := Lib.hid (tunder_nil s w)
  go_enter Tryz.func123, Tryz.ntmps123
  go_wp2_with fail
  refine C1.out.mono ?_
  rintro e w1 ⟨rfl, hE1⟩
  have HE := Lib.hid hE1
  clear C1 hE1 hx hy
  go_wp2
  go_ret
  exact ⟨rfl, HE.out⟩

def BelNil (s : ByteArray) (w : World) (e : Ending) (w' : World) : Prop :=
  ∃ x y bw btb, e = .returned (.func (.func 159) #[] #[.pointer (some ⟨bw, 0, none⟩), .pointer (some ⟨btb, 0, none⟩)]) ∧
    w'.cell? ⟨bw, 0, none⟩ = some (.func (.func 123) #[] #[.pointer (some ⟨x, 0, none⟩), .pointer (some ⟨y, 0, none⟩)]) ∧ w'.cell? ⟨x, 0, none⟩ = some (.pointer none) ∧ w'.cell? ⟨y, 0, none⟩ = some (.string s) ∧ Ext w w'

theorem toldN_any (x y : Nat) (w : World) : Calls Tryz.prog 121 #[.pointer none, .func (.func 123) #[] #[.pointer (some ⟨x, 0, none⟩), .pointer (some ⟨y, 0, none⟩)]] w fun e w' =>
    ∃ bw btb, e = .returned (.func (.func 159) #[] #[.pointer (some ⟨bw, 0, none⟩), .pointer (some ⟨btb, 0, none⟩)]) ∧ w'.cell? ⟨bw, 0, none⟩ = some (.func (.func 123) #[] #[.pointer (some ⟨x, 0, none⟩), .pointer (some ⟨y, 0, none⟩)]) ∧ Ext w w' := by
  have h2 : ∀ t u, ((w.alloc (.cells #[Value.pointer none] t)).alloc (.cells #[Value.func (.func 123) #[] #[.pointer (some ⟨x, 0, none⟩), .pointer (some ⟨y, 0, none⟩)]] u)).cell? ⟨w.heap.size + 1, 0, none⟩ = some (.func (.func 123) #[] #[.pointer (some ⟨x, 0, none⟩), .pointer (some ⟨y, 0, none⟩)]) := fun t u =>
    cell_of_row _ _ _ _ _ _ (by have := heap_alloc_new (w.alloc (.cells #[Value.pointer none] t)) (.cells #[Value.func (.func 123) #[] #[.pointer (some ⟨x, 0, none⟩), .pointer (some ⟨y, 0, none⟩)]] u); rwa [World.size_alloc] at this)
  have H2 := Lib.hid h2
  clear h2
  go_enter Tryz.func121, Tryz.ntmps121
  go_wp2
  go_ret
  exact ⟨_, _, rfl, H2.out _ _, (Ext.alloc w _).trans (Ext.alloc _ _)⟩

theorem tbelow_nil (s : ByteArray) (w : World) : Calls Tryz.prog 62 #[.pointer none, .string s] w (BelNil s w) := by
  have h1 : ∀ t u, ((w.alloc (.cells #[Value.pointer none] t)).alloc (.cells #[Value.string s] u)).cell? ⟨w.heap.size, 0, none⟩ = some (.pointer none) := fun t u =>
    cell_of_row _ _ _ _ _ _ ((heap_alloc_old _ _ (by simp)).trans (heap_alloc_new w _))
  have h2 : ∀ t u, ((w.alloc (.cells #[Value.pointer none] t)).alloc (.cells #[Value.string s] u)).cell? ⟨w.heap.size + 1, 0, none⟩ = some (.string s) := fun t u =>
    cell_of_row _ _ _ _ _ _ (by have := heap_alloc_new (w.alloc (.cells #[Value.pointer none] t)) (.cells #[Value.string s] u); rwa [World.size_alloc] at this)
  have H1 := Lib.hid h1
  have H2 := Lib.hid h2
  clear h1 h2
  have C1 := fun W => toldN_any w.heap.size (w.heap.size + 1) W
  go_enter Tryz.func62, Tryz.ntmps62
  go_wp2_with fail
  refine (C1 _).mono ?_
  rintro e w1 ⟨bw, btb, rfl, k1, hE⟩
  have hfin : BelNil s w (.returned (.func (.func 159) #[] #[.pointer (some ⟨bw, 0, none⟩), .pointer (some ⟨btb, 0, none⟩)])) w1 :=
    ⟨w.heap.size, w.heap.size + 1, _, _, rfl, k1, (hE.cell (p := ⟨w.heap.size, 0, none⟩) (by simp; omega)).trans (H1.out _ _), (hE.cell (p := ⟨w.heap.size + 1, 0, none⟩) (by simp)).trans (H2.out _ _), ((Ext.alloc w _).trans (Ext.alloc _ _)).trans hE⟩
  have HFIN := Lib.hid hfin
  clear hfin k1 hE C1
  go_wp2
  go_ret
  exact HFIN.out

theorem tadd_nil (cs : Array Value) (w : World) (h : cs.size = 17) : Calls Tryz.prog 40 #[.pointer none, .agg cs] w fun e w' => e = .returned (.int .i64 2) ∧ Ext w w' := by
  go_enter Tryz.func40, Tryz.ntmps40
  go_wp2
  go_ret
  exact ⟨rfl, Ext.alloc _ _⟩
theorem tput_nil (cs : Array Value) (w : World) (h : cs.size = 17) : Calls Tryz.prog 41 #[.pointer none, .agg cs] w fun e w' => e = .returned (.int .i64 2) ∧ Ext w w' := by
  go_enter Tryz.func41, Tryz.ntmps41
  go_wp2
  go_ret
  exact ⟨rfl, Ext.alloc _ _⟩
theorem trem_nil (s : ByteArray) (w : World) : Calls Tryz.prog 42 #[.pointer none, .string s] w fun e w' => e = .returned (.int .i64 2) ∧ w = w' := by
  go_enter Tryz.func42, Tryz.ntmps42
  go_wp2
  go_ret
  exact ⟨rfl, rfl⟩
theorem tclone_nil (w : World) : Calls Tryz.prog 45 #[.pointer none] w fun e w' => e = .returned (.pointer none) ∧ w = w' := by
  go_enter Tryz.func45, Tryz.ntmps45
  go_wp2
  go_ret
  exact ⟨rfl, rfl⟩
theorem tcount_nil (w : World) : Calls Tryz.prog 26 #[.pointer none] w fun e w' => e = .returned (.int .i64 0) ∧ w = w' := by
  go_enter Tryz.func26, Tryz.ntmps26
  go_wp2
  go_ret
  exact ⟨rfl, rfl⟩
theorem some_nil (f : Value) (w : World) : Calls Tryz.prog 108 #[.pointer none, f] w fun e w' => e = .returned (.slice none 0 0) ∧ w = w' := by
  have C1 := Lib.hid (sorted_nil w)
  go_enter Tryz.func108, Tryz.ntmps108
  go_wp2_with fail
  refine C1.out.mono ?_
  rintro e w1 ⟨rfl, rfl⟩
  clear C1
  go_wp2
  go_loopw [5, 11] (fun lv i wr => lv = .slice none 0 0 ∧ i = .int .i64 0 ∧ wr = w) (fun _ _ _ => 0)
  case atStart => exact ⟨rfl, rfl, rfl⟩
  case round =>
    obtain ⟨rfl, rfl, rfl⟩ := hrel
    go_wp2
    go_ret
    exact ⟨rfl, rfl⟩
theorem towned_nil (z : Int) (w : World) : Calls Tryz.prog 49 #[.pointer none, .int .i64 z] w fun e w' => e = .returned (.slice none 0 0) ∧ Ext w w' := by
  have C1 := Lib.hid (fun f w => some_nil f w)
  go_enter Tryz.func49, Tryz.ntmps49
  go_wp2_with fail
  refine (C1.out _ _).mono ?_
  rintro e w1 ⟨rfl, rfl⟩
  go_wp2
  go_ret
  exact ⟨rfl, Ext.alloc _ _⟩
theorem tidle_nil (w : World) : Calls Tryz.prog 51 #[.pointer none] w fun e w' => e = .returned (.slice none 0 0) ∧ Ext w w' := by
  have C1 := Lib.hid (fun f w => some_nil f w)
  go_enter Tryz.func51, Tryz.ntmps51
  go_wp2_with fail
  refine (C1.out _ _).mono ?_
  rintro e w1 ⟨rfl, rfl⟩
  go_wp2
  go_ret
  exact ⟨rfl, Ext.alloc _ _⟩
theorem taged_nil (z : Int) (w : World) : Calls Tryz.prog 53 #[.pointer none, .int .i64 z] w fun e w' => e = .returned (.slice none 0 0) ∧ Ext w w' := by
  have C1 := Lib.hid (fun f w => some_nil f w)
  go_enter Tryz.func53, Tryz.ntmps53
  go_wp2_with fail
  refine (C1.out _ _).mono ?_
  rintro e w1 ⟨rfl, rfl⟩
  go_wp2
  go_ret
  exact ⟨rfl, (Ext.alloc _ _).trans (Ext.alloc _ _)⟩
theorem same_nil (w : World) : Calls Tryz.prog 55 #[.pointer none, .pointer none] w fun e w' => e = .returned (.bool true) ∧ w = w' := by
  go_enter Tryz.func55, Tryz.ntmps55
  go_wp2
  go_ret
  exact ⟨rfl, rfl⟩
theorem same_nil_x (b : Nat) (w : World) : Calls Tryz.prog 55 #[.pointer none, .pointer (some ⟨b, 0, none⟩)] w fun e w' => e = .returned (.bool false) ∧ w = w' := by
  have hpe : (binOp .eql 23 (.pointer none) (.pointer (some ⟨b, 0, none⟩))).run Tryz.prog w = .ok (.bool false) w := by kernel_rfl
  go_enter Tryz.func55, Tryz.ntmps55
  go_wp2
  go_ret
  exact ⟨rfl, rfl⟩
end Go.Proofs.YtamolbegmkngdaaGreatDoor
namespace Go.Proofs.YtamolbegmkngdaaGreatDoor
open Go.RowKit Go.Sort
set_option maxHeartbeats 4000000
set_option maxRecDepth 100000

/-- What is found stands where it was found. -/
theorem rfind_node {M : List (Key × Nd)} (hM : MOk M) (s : ByteArray) {y : Nd} (hg : mget M s.data.toList = some y) : (rfind (nds M) s).1 < (nds M).length ∧ (nds M)[(rfind (nds M) s).1]? = some y := by
  have h2 := rfind_there hM.sorted hM.key s
  rw [hg] at h2
  obtain ⟨n, hn, hp⟩ := rfind_lt (nds M) s h2
  have hl := (List.getElem?_eq_some_iff.1 hn).1
  refine ⟨hl, ?_⟩
  rw [hn]
  have hm : n ∈ nds M := List.mem_of_getElem? hn
  obtain ⟨x, hx, rfl⟩ := List.mem_map.1 hm
  have hk := hM.key x hx
  have : mget M x.1 = some x.2 := mget_of_mem hM.sorted hx
  rw [hk] at this
  unfold keyN at this
  rw [hp, hg] at this
  exact this.symm

theorem setRow_same (w : World) (g : Nat) (cs : Array Value) (t : TypeId) (h : w.heap[g]? = some (.cells cs t (0, 0))) : w.setRow g cs = w := by
  refine world_ext ?_ rfl rfl rfl rfl
  apply Array.ext_getElem?
  intro i
  by_cases hi : i = g
  · subst hi
    rw [setRow_heap _ _ _ _ _ _ h, h]
  · rw [setRow_other _ _ _ _ hi]

theorem zeroStore (w : World) (t : TypeId) (cs : Array Value) : (w.alloc (.cells cs t)).heap[w.heap.size]? = some (.cells cs t (0, 0)) := heap_alloc_new w _

/-- A node stored into the result's box. -/
theorem getOut_store (M : List (Key × Nd)) (s : ByteArray) (b : Bool) (m : Nd) (w w3 : World) (cs0 : Array Value) (B0 : Nat) (hB0 : w.heap.size < B0) (v : Value) (hE : Ext w w3) (hr : w3.heap[w.heap.size]? = some (.cells cs0 47 (0, 0))) (hN : NdS (fun k => B0 ≤ k ∧ k < w3.heap.size) w3 v m) :
    ∃ da dc aa ac, v = .agg (ndC m (.slice da m.data.length dc) (.slice aa m.acl.length ac)) ∧ (w3.setRow w.heap.size (ndC m (.slice da m.data.length dc) (.slice aa m.acl.length ac))).heap[w.heap.size]? = some (.cells (ndC m (.slice da m.data.length dc) (.slice aa m.acl.length ac)) 47 (0, 0)) ∧
      NdS (fun b => w.heap.size ≤ b ∧ b < (w3.setRow w.heap.size (ndC m (.slice da m.data.length dc) (.slice aa m.acl.length ac))).heap.size) (w3.setRow w.heap.size (ndC m (.slice da m.data.length dc) (.slice aa m.acl.length ac))) v m ∧
      Ext w (w3.setRow w.heap.size (ndC m (.slice da m.data.length dc) (.slice aa m.acl.length ac))) := by
  obtain ⟨da, dc, aa, ac, rfl, h1, h2⟩ := hN
  refine ⟨da, dc, aa, ac, rfl, ?_⟩
  generalize hcs : ndC m (.slice da m.data.length dc) (.slice aa m.acl.length ac) = cs
  have hs4 : (w3.setRow w.heap.size cs).heap.size = w3.heap.size := by simp [World.setRow]
  have hb4 : Ext w (w3.setRow w.heap.size cs) := hE.trans' ⟨rfl, rfl, rfl, by rw [hs4]; exact Nat.le_refl _, fun k hk => setRow_other _ _ _ _ (by omega)⟩
  have hk : ∀ (b o : Nat) u, (B0 ≤ b ∧ b < w3.heap.size) → w3.cell? ⟨b, o, none⟩ = some u → (w3.setRow w.heap.size cs).cell? ⟨b, o, none⟩ = some u := fun b o u hb hu =>
    (World.cell?_of_block (setRow_other _ _ _ _ (show b ≠ w.heap.size by have := hb.1; omega))).trans hu
  exact ⟨setRow_heap w3 w.heap.size _ cs 47 (0, 0) hr, ⟨da, dc, aa, ac, by rw [hcs], h1.imp (fun b hb => ⟨by omega, by omega⟩) hk, h2.imp (fun b hb => ⟨by omega, by omega⟩) hk⟩, hb4⟩

theorem rget_any (w : World) (b : Nat) (M : List (Key × Nd)) (hR : RT w b (nds M)) (hM : MOk M) (s : ByteArray) (hs : s.size ≤ 9223372036854775800) : Calls Tryz.prog 88 #[.pointer (some ⟨b, 0, none⟩), .string s] w (GetOut M s w) := by
  obtain ⟨W1, hW1⟩ : ∃ W1, W1 = w.alloc (.cells zeroNd 47) := ⟨_, rfl⟩
  have hE1 : Ext w W1 := by rw [hW1]; exact Ext.alloc _ _
  have hz1 : W1.heap.size = w.heap.size + 1 := by rw [hW1]; simp
  have hr1 : W1.heap[w.heap.size]? = some (.cells zeroNd 47 (0, 0)) := by rw [hW1]; exact heap_alloc_new w _
  have hR1 := hR.ext hE1
  have CF := rfind_any _ W1 b (nds M) hR1 (nds_fit hM) s hs
  rw [rfind_isSome hM s] at CF
  cases hg : mget M s.data.toList with
  | none =>
    rw [hg] at CF
    have HS := fun W : World => Lib.hid (fun (h : W.heap[w.heap.size]? = some (.cells zeroNd 47 (0, 0))) => setRow_same W w.heap.size zeroNd 47 h)
    have HW1 := Lib.hid hW1
    have HR1 := Lib.hid hr1
    have HE1 := Lib.hid hE1
    have CF := Lib.hid CF
    have HG := Lib.hid hg
    unfold zeroNd at HW1
    clear hW1 hr1 hE1 hR1 hR hg
    go_enter Tryz.func88, Tryz.ntmps88
    go_wp2_with fail
    rw [← HW1.out]
    refine CF.out.mono ?_
    rintro e W2 ⟨rfl, hE2⟩
    have hE2 : Ext W1 W2 := hE2
    have hr2 := (hE2.block w.heap.size (by omega)).trans HR1.out
    have HR2 := Lib.hid hr2
    have hS2 := (HS W2).out hr2
    have HS2 := Lib.hid hS2
    have HE2 := Lib.hid (HE1.out.trans hE2)
    unfold zeroNd at HS2
    clear hE2 hr2 hS2 HS CF HW1
    go_wp2_with (refine wpList_store_row rfl 47 (.tmp 4) (.tmp 19) rfl w.heap.size _ rfl rfl 47 _ HR2.out sizeNd rfl zeroNd_one ?_; rw [HS2.out])
    have hfin : GetOut M s w (.returned (.tuple #[.agg zeroNd, .bool false])) W2 := ⟨_, by rw [HG.out]; rfl, by rw [HG.out]; exact zeroN_nds _ _, HE2.out⟩
    refine bodyPost_ret (v := .tuple #[.agg zeroNd, .bool false]) ?_ rfl hfin
    exact results_cell_row2 (p := 4) (q := 5) (ty := 47) rfl _ _ w.heap.size 47 _ (0, 0) _ _ rfl rfl HR2.out Tryz.underlying47 rfl sizeNd
  | some y =>
    rw [hg] at CF
    obtain ⟨hlt, hy⟩ := rfind_node hM s hg
    have hfy := nds_fit hM y (List.mem_of_getElem? hy)
    obtain ⟨a, cap, vs, hb, hl, hcm, hS, hrows, _⟩ := hR1
    obtain ⟨bl, off, da, dc, aa, ac, ea, hSb, hc, hD, hA, _⟩ := hrows.row hy
    subst ea
    have hlt2 : (rfind (nds M) s).1 < M.length := by rwa [nds_length] at hlt
    generalize (rfind (nds M) s).1 = k at *
    have hcb : W1.cell? ⟨b, 0, none⟩ = some (.slice (some ⟨bl, off, none⟩) (nds M).length cap) := cell_of_row _ _ _ _ _ _ hb
    have hbl := (Array.getElem?_eq_some_iff.1 hb).1
    have hl64 : (nds M).length ≤ 9223372036854775807 := by unfold maxLen at hcm; omega
    have HW1 := Lib.hid hW1
    have HR1 := Lib.hid hr1
    have HE1 := Lib.hid hE1
    have HCB := Lib.hid hcb
    have HC := Lib.hid hc
    have HS := Lib.hid hS
    have HD := Lib.hid (hD.cells fun b hb => (hS b hb).1)
    have HA := Lib.hid (hA.cells fun b hb => (hS b hb).1)
    have CF := Lib.hid CF
    have HG := Lib.hid hg
    unfold zeroNd at HW1
    clear hW1 hr1 hE1 hR hg hcb hc hS hD hA hb hrows hy hlt2
    go_enter Tryz.func88, Tryz.ntmps88
    go_wp2_with fail
    rw [← HW1.out]
    refine CF.out.mono ?_
    rintro e W2 ⟨rfl, hE2⟩
    have hE2 : Ext W1 W2 := hE2
    have hz2 := hE2.size
    have hr2 := (hE2.block w.heap.size (by omega)).trans HR1.out
    have hcb2 : W2.cell? ⟨b, 0, none⟩ = some (.slice (some ⟨bl, off, none⟩) (nds M).length cap) := (hE2.cell (p := ⟨b, 0, none⟩) hbl).trans HCB.out
    have hcw : ∀ j u, (ndC y (.slice da y.data.length dc) (.slice aa y.acl.length ac))[j]? = some u → W2.cell? ((⟨bl, off + k * 17, none⟩ : Addr).add j) = some u := fun j u hj => by
      rw [addr_add, hE2.cell (p := ⟨bl, off + k * 17 + j, none⟩) (HS.out bl hSb).1]
      exact HC.out j u hj
    have CC := Lib.hid (rclone_new y da aa dc ac W2 hfy (HD.out.ext hE2) (HA.out.ext hE2))
    have HR2 := Lib.hid hr2
    have HE2 := Lib.hid (HE1.out.trans hE2)
    have HC2 := Lib.hid hcw
    unfold ndC at HC2
    clear hE2 hr2 CF HW1 hcw HC HD HA HS HCB
    go_wp2_with (refine wpList_load_at rfl 47 (.tmp 25) rfl _ rfl _ _ HC2.out Tryz.underlying47 rfl sizeNd ?_)
    refine CC.out.mono ?_
    rintro e W3 ⟨v, rfl, hN, hE3⟩
    have hE3 : Ext W2 W3 := hE3
    have hr3 := (hE3.block w.heap.size (by omega)).trans HR2.out
    obtain ⟨va, vc, vb, vd, rfl, hr4, hN4, hE4⟩ := getOut_store M s true y w W3 _ W2.heap.size (by omega) v (HE2.out.trans hE3) hr3 hN
    have hfin : GetOut M s w (.returned (.tuple #[.agg (ndC y (.slice va y.data.length vc) (.slice vb y.acl.length vd)), .bool true])) _ := ⟨_, by rw [HG.out]; rfl, by rw [HG.out]; exact hN4, hE4⟩
    have HR3 := Lib.hid hr3
    have HR4 := Lib.hid hr4
    have HFIN := Lib.hid hfin
    clear hE3 hr3 hr4 hN hN4 hE4 hfin CC HC2 hcb2
    go_wp2_with (refine wpList_store_row rfl 47 (.tmp 4) (.tmp 27) rfl w.heap.size _ rfl rfl 47 _ HR3.out sizeNd rfl (cells_node y va vb _ _ vc vd) ?_)
    refine bodyPost_ret (v := .tuple #[.agg (ndC y (.slice va y.data.length vc) (.slice vb y.acl.length vd)), .bool true]) ?_ rfl HFIN.out
    exact results_cell_row2 (p := 4) (q := 5) (ty := 47) rfl _ _ w.heap.size 47 _ (0, 0) _ _ rfl rfl HR4.out Tryz.underlying47 rfl sizeNd
end Go.Proofs.YtamolbegmkngdaaGreatDoor
