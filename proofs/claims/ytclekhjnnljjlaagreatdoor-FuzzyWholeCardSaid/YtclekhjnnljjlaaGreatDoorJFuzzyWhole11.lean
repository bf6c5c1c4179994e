/- A region that draws its order, over any relation, whose last operation turns what it likes; an append to a field's slice in such a region. The look whether a session's id is there already: a region that draws its order. Identities compared; the walks of slices.Index and slices.Contains at identities. The walks of package acl, on: addresses. The walk of acl.Identity. The walks of the reference of stat.Right, and of its look at UTF-8. -/
import Derived.Test.YtclekhjnnljjlaaGreatDoorJFuzzyWhole10
import Derived.Test.YtclekhjnnljjlaaGreatDoorJFuzzyWhole9
import Derived.Great.BuildSlice
import Derived.Test.YtclekhjnnljjlaaGreatDoorJFuzzyWhole5
import Derived.Test.YtclekhjnnljjlaaGreatDoorJFuzzyWhole7
import Derived.Test.YtclekhjnnljjlaaGreatDoorJFuzzyWhole2
import Derived.BigQuiet
import Derived.Test.YtclekhjnnljjlaaGreatDoorJFuzzyWhole3
import Derived.Test.YtclekhjnnljjlaaGreatDoorJFuzzyWhole8
namespace Go.Proofs.YtclekhjnnljjlaaGreatDoor
open Go.RowKit
set_option maxHeartbeats 1000000
section
variable {P : Program} {ops : Array Oper} {Q : Exit → Act → World → Prop}
theorem region_lastR {a0 : Act} {w0 : World} (m : Nat) (Rl : World → World → Prop) (hRr : ∀ w, Rl w w) (hRt : ∀ a b c, Rl a b → Rl b c → Rl a c) (hRd : ∀ w, Rl w w.drew) (Φ : Nat → Value → World → Prop)
    (hstab : ∀ i v w w', Φ i v w → Rl w w' → Φ i v w') (hchk : (dstsOk ops && aheadB ops && coverOk ops && ((ops.toList.take (ops.size - 1)).all fun o => o.dst.any fun d => decide (d < m))) = true) (hsz : a0.tmps.size = m)
    (k : Nat) (ol : Oper) (hk : ops[k]? = some ol) (hks : ops.size = k + 1) (hg : ol.guard = none)
    (hd : DutiesR Rl P ops Q Φ a0 w0 0 (ops.toList.take k))
    (hlast : ∀ a w, Rl w0 w → Framed ops a0 a → (∀ i o, i < k → ops[i]? = some o → Φ i (valOf o a) w) → ol.wp P a w (fun a' w' => Q .normal a' w') Q) :
    RegionP P ops Q a0 w0 := by
  simp only [Bool.and_eq_true] at hchk
  obtain ⟨⟨⟨hdst, hacy⟩, hcov⟩, hin⟩ := hchk
  rw [hks, Nat.add_sub_cancel] at hin
  have hdn : (ops.toList.filterMap (·.dst)).Nodup := by simpa [dstsOk] using hdst
  unfold RegionP
  refine wpAny_inv (fun l a w => l.size = ops.size ∧ ((l.getD k false = false ∧ Rl w0 w ∧ Framed ops a0 a ∧ (∀ i o, i < k → ops[i]? = some o → l.getD i false = true → Φ i (valOf o a) w) ∧
      (∀ (i : Nat) o, ops[i]? = some o → l.getD i false = true → ∀ e ∈ o.after.toList, Region.binds .any e = true → l.getD e.on false = true)) ∨ ((∀ i, i < ops.size → l.getD i false = true) ∧ Q .normal a w))) (fun _ _ _ h => h.1) ?_ ?_ _ _ _ _ ?_ ?_
  · rintro l a w i ⟨hs, hJ⟩ hi
    obtain ⟨hlt, hu, hpre⟩ := (ready_iff hs).1 hi
    have hJ' := hJ.resolve_right (fun h => by rw [h.1 i hlt] at hu; cases hu)
    obtain ⟨hlk, hE, hF, hP, hC⟩ := hJ'
    have ho : ops[i]? = some ops[i] := Array.getElem?_eq_getElem hlt
    have hmem : ops[i] ∈ ops.toList := by simp
    by_cases hik : i = k
    · subst hik
      rw [ho] at hk
      obtain rfl := Option.some.inj hk
      have hothers : ∀ d j, j < i → i - j ≤ d → l.getD j false = true := by
        intro d
        induction d with
        | zero => intro j h1 h2; omega
        | succ d ih =>
          intro j h1 h2
          have := List.all_eq_true.1 hcov j (by rw [List.mem_range]; omega)
          obtain ⟨x, hx, hx2⟩ := List.any_eq_true.1 this
          simp only [Bool.and_eq_true, decide_eq_true_eq, List.any_eq_true, beq_iff_eq] at hx2
          obtain ⟨hjx, e, he, hej, heb⟩ := hx2
          have hxo : ops[x.2]? = some x.1 := by simpa using List.mem_zipIdx_iff_getElem?.1 hx
          have hxlt : x.2 < ops.size := (Array.getElem?_eq_some_iff.1 hxo).1
          by_cases hxi : x.2 = i
          · rw [hxi, ho] at hxo
            have := hpre e (by rw [Option.some.inj hxo]; exact he) heb
            rwa [hej] at this
          · have := hC x.2 x.1 hxo (ih x.2 (by omega) (by omega)) e he heb
            rwa [hej] at this
      have hgo := hlast a w hE hF (fun j o hj hjo => hP j o hj hjo (hothers i j hj (by omega)))
      unfold wpOpP
      rw [ho]
      simp only []
      have hw : Region.wanted ops[i] (yielded ops a.tmps) = true := by unfold Region.wanted; rw [hg]
      rw [if_pos hw]
      refine Oper.wp_mono (fun a' w' h => ?_) hgo
      refine ⟨by simpa using hs, .inr ⟨fun j hj => ?_, h⟩⟩
      by_cases hji : j = i
      · subst hji; exact getD_set_same (by omega)
      · rw [getD_set_other hji]; exact hothers i j (by omega) (by omega)
    · have hol : (ops.toList.take k)[i]? = some ops[i] := by rw [List.getElem?_take]; simp; omega
      have hduty := hd.at i ops[i] hol
      rw [Nat.zero_add] at hduty
      have hah : Ahead ops Φ ops[i] a w := fun e he hb p hp => by
        have hac := List.all_eq_true.1 hacy (ops[i], i) (List.mem_zipIdx_iff_getElem?.2 (by simp))
        have := List.all_eq_true.1 hac e (by simpa using he)
        have hlt' : e.on < i := by simpa [hb] using this
        exact hP e.on p (by omega) hp (hpre e he hb)
      have hgo := hduty a w hE hF hah
      have next : ∀ v w', Φ i v w' → Rl w w' → (l.setIfInBounds i true).size = ops.size ∧ (((l.setIfInBounds i true).getD k false = false ∧ Rl w0 w' ∧ Framed ops a0 (a.put ops[i].dst v) ∧ (∀ j o, j < k → ops[j]? = some o → (l.setIfInBounds i true).getD j false = true → Φ j (valOf o (a.put ops[i].dst v)) w') ∧
          (∀ (j : Nat) o, ops[j]? = some o → (l.setIfInBounds i true).getD j false = true → ∀ e ∈ o.after.toList, Region.binds .any e = true → (l.setIfInBounds i true).getD e.on false = true)) ∨ ((∀ j, j < ops.size → (l.setIfInBounds i true).getD j false = true) ∧ Q .normal (a.put ops[i].dst v) w')) := by
        intro v w' hv hE'
        refine ⟨by simpa using hs, .inl ⟨by rw [getD_set_other (Ne.symm hik)]; exact hlk, hRt _ _ _ hE hE', framed_put hF hmem v, fun j o hj hjo hlj => ?_, fun j o hjo hlj e he hb => ?_⟩⟩
        · by_cases e : j = i
          · subst e
            rw [ho] at hjo
            obtain rfl := Option.some.inj hjo
            have hod := List.all_eq_true.1 hin ops[j] (List.mem_of_getElem? hol)
            rw [valOf_put_same (fun d hd => by rw [hF.2.1, hsz]; rw [hd] at hod; simpa using hod) (fun h => by rw [h] at hod; cases hod)]
            exact hv
          · rw [getD_set_other e] at hlj
            rw [valOf_put_other (fun d hd h => e (dst_inj ops.toList hdn j i o ops[i] d (by simpa using hjo) (by simp) hd h))]
            exact hstab _ _ _ _ (hP j o hj hjo hlj) hE'
        · by_cases e1 : e.on = i
          · rw [e1]; exact getD_set_same (by omega)
          · rw [getD_set_other e1]
            by_cases e2 : j = i
            · subst e2
              rw [ho] at hjo
              obtain rfl := Option.some.inj hjo
              exact hpre e he hb
            · rw [getD_set_other e2] at hlj
              exact hC j o hjo hlj e he hb
      unfold wpOpP
      rw [ho]
      simp only []
      by_cases hw : Region.wanted ops[i] (yielded ops a.tmps) = true
      · rw [if_pos hw] at hgo ⊢
        refine Oper.wp_mono (fun a' w' h => ?_) hgo
        obtain ⟨v, rfl, hv, hE'⟩ := h
        exact next v w' hv hE'
      · rw [if_neg hw] at hgo ⊢
        exact next undef w hgo (hRr w)
  · rintro l a w ⟨hs, hJ⟩ hr
    rcases hJ with ⟨hlk, _⟩ | ⟨_, hq⟩
    · rw [ready_none hs hacy hr (k + 1) k (by omega) (by omega)] at hlk
      cases hlk
    · exact hq
  · refine ⟨by simp, .inl ⟨?_, hRd w0, ⟨rfl, rfl, fun _ _ => rfl⟩, fun i o _ _ h => ?_, fun i o _ h => ?_⟩⟩
    · simp [Array.getD_eq_getD_getElem?, Array.getElem?_replicate]; split <;> simp
    · simp [Array.getD_eq_getD_getElem?, Array.getElem?_replicate] at h; split at h <;> simp at h
    · simp [Array.getD_eq_getD_getElem?, Array.getElem?_replicate] at h; split at h <;> simp at h
  · unfold unlisted
    exact Nat.le_trans (List.count_le_length) (by simp)

theorem region_lastR_e {a0 : Act} {w0 : World} (m : Nat) (Rl : World → World → Prop) (hRr : ∀ w, Rl w w) (hRt : ∀ a b c, Rl a b → Rl b c → Rl a c) (hRd : ∀ w, Rl w w.drew) (Φ : Nat → Value → World → Prop)
    (hstab : ∀ i v w w', Φ i v w → Rl w w' → Φ i v w') (hchk : (dstsOk ops && aheadB ops && coverOk ops && ((ops.toList.take (ops.size - 1)).all fun o => o.dst.any fun d => decide (d < m))) = true) (hsz : a0.tmps.size = m)
    (k : Nat) (ol : Oper) (hk : ops[k]? = some ol) (hks : ops.size = k + 1) (hg : ol.guard = none) (hdn : ol.dst = none)
    (hd : DutiesR Rl P ops Q Φ a0 w0 0 (ops.toList.take k))
    (hlast : ∀ us w, Rl w0 w → us.length = (ops.toList.take k).length → (∀ i u, us[i]? = some u → Φ i u w) → ol.wp P (filled (ops.toList.take k) us a0) w (fun a' w' => Q .normal a' w') Q) :
    RegionP P ops Q a0 w0 := by
  refine region_lastR m Rl hRr hRt hRd Φ hstab hchk hsz k ol hk hks hg hd fun a w hE hF hP => ?_
  simp only [Bool.and_eq_true] at hchk
  have hin : ∀ o ∈ ops.toList.take k, ∀ d, o.dst = some d → d < a0.tmps.size := fun o ho d hd => by
    have := hchk.2
    rw [hks, Nat.add_sub_cancel] at this
    have := List.all_eq_true.1 this o ho
    rw [hd] at this
    rw [hsz]; simpa using this
  have hr : ∀ o ∈ ops.toList, o ∈ ops.toList.take k ∨ o.dst = none := fun o ho => by
    obtain ⟨i, hi, e⟩ := List.getElem_of_mem ho
    by_cases hik : i < k
    · left
      exact List.mem_of_getElem? (i := i) (by rw [List.getElem?_take, if_pos hik, List.getElem?_eq_getElem hi, e])
    · right
      have hi' : i = k := by simp at hi; omega
      subst hi'
      have : ops.toList[i]? = some ol := by simpa using hk
      rw [List.getElem?_eq_getElem hi, e] at this
      rw [Option.some.inj this]; exact hdn
  rw [framed_filled hF (ops.toList.take k) (fun _ h => List.mem_of_mem_take h) hr hin]
  refine hlast _ w hE (by simp) fun i u hu => ?_
  rw [List.getElem?_map, Option.map_eq_some_iff] at hu
  obtain ⟨o, ho, rfl⟩ := hu
  have hik : i < k := by
    have := (List.getElem?_eq_some_iff.1 ho).1
    simp at this; omega
  rw [List.getElem?_take, if_pos hik] at ho
  exact hP i o hik (by simpa using ho)
end

/-- All is as it was, but for what lies behind the first k cells of one row. -/
structure RowR (g : Option Nat) (k : Nat) (w w' : World) : Prop where
  os : w'.os = w.os
  tape : w'.tape = w.tape
  output : w'.output = w.output
  size : w.heap.size ≤ w'.heap.size
  block : ∀ b, b < w.heap.size → g ≠ some b → w'.heap[b]? = w.heap[b]?
  row : ∀ b, g = some b → ∀ (cur : Array Value) (t : TypeId) (f : Nat × Nat), w.heap[b]? = some (.cells cur t f) → ∃ cur' : Array Value, w'.heap[b]? = some (.cells cur' t f) ∧ cur'.size = cur.size ∧ cur'.toList.take k = cur.toList.take k
theorem RowR.refl (g : Option Nat) (k : Nat) (w : World) : RowR g k w w := ⟨rfl, rfl, rfl, Nat.le_refl _, fun _ _ _ => rfl, fun _ _ cur _ _ h => ⟨cur, h, rfl, rfl⟩⟩
theorem RowR.trans {g : Option Nat} {k : Nat} {a b c : World} (h : RowR g k a b) (h' : RowR g k b c) : RowR g k a c :=
  ⟨h'.os.trans h.os, h'.tape.trans h.tape, h'.output.trans h.output, Nat.le_trans h.size h'.size, fun i hi hn => (h'.block i (Nat.lt_of_lt_of_le hi h.size) hn).trans (h.block i hi hn), fun i hg cur t f hc => by
    obtain ⟨c1, h1, h2, h3⟩ := h.row i hg cur t f hc
    obtain ⟨c2, h4, h5, h6⟩ := h'.row i hg c1 t f h1
    exact ⟨c2, h4, h5.trans h2, h6.trans h3⟩⟩
theorem RowR.of_ext {g : Option Nat} {k : Nat} {a b : World} (h : Ext a b) : RowR g k a b :=
  ⟨h.os, h.tape, h.output, h.size, fun i hi _ => h.block i hi, fun i _ cur t f hc => ⟨cur, (h.block i (Array.getElem?_eq_some_iff.1 hc).1).trans hc, rfl, rfl⟩⟩
theorem RowR.drew (g : Option Nat) (k : Nat) (w : World) : RowR g k w w.drew := RowR.of_ext (Ext.drew w)
theorem RowR.cell {g : Option Nat} {k : Nat} {w w' : World} (h : RowR g k w w') {a : Addr} {u : Value} (hu : w.cell? a = some u) (hn : g ≠ some a.block) : w'.cell? a = some u :=
  (World.cell?_of_block (h.block _ (World.block_lt_of_cell? _ _ hu) hn)).trans hu
theorem RowR.own {k : Nat} {w w' : World} {base e size n : Nat} {v : Value} {xs : List Value} (h : RowR v.ownBlock k w w') (hk : k = n * size) (ho : w.ownsRow base e size v n xs) : w'.ownsRow base e size v n xs := by
  refine ⟨ho.1, ?_⟩
  rcases ho.2 with h1 | ⟨g, cap, cur, e1, hb, hg, h1, h2, h3, h4⟩
  · exact .inl h1
  · subst e1
    obtain ⟨c1, k1, k2, k3⟩ := h.row g rfl cur _ _ hg
    exact .inr ⟨g, cap, c1, rfl, hb, k1, h1, h2, k2.trans h3, by rw [← hk, k3, hk]; exact h4⟩
/-- The same, and a row that was grown by these cells stays so. -/
structure RowA (base e size n m : Nat) (v : Value) (xs : List Value) (G : List Value → World → Prop) (w w' : World) : Prop where
  row : RowR v.ownBlock (n * size) w w'
  keep : ∀ u, (∃ l, G l w ∧ w.ownsRow base e size u (n + m) (xs ++ l)) → ∃ l, G l w' ∧ w'.ownsRow base e size u (n + m) (xs ++ l)
section
variable (base e size n m : Nat) (v : Value) (xs : List Value) (G : List Value → World → Prop)
theorem RowA.refl (w : World) : RowA base e size n m v xs G w w := ⟨RowR.refl _ _ _, fun _ h => h⟩
variable {base e size n m : Nat} {v : Value} {xs : List Value} {G : List Value → World → Prop}
theorem RowA.trans {a b c : World} (h : RowA base e size n m v xs G a b) (h' : RowA base e size n m v xs G b c) : RowA base e size n m v xs G a c := ⟨h.row.trans h'.row, fun u hu => h'.keep u (h.keep u hu)⟩
theorem RowA.of_ext (hGs : ∀ l a b, RowR v.ownBlock (n * size) a b → G l a → G l b) {a b : World} (h : Ext a b) : RowA base e size n m v xs G a b := ⟨RowR.of_ext h, fun _ ⟨l, hl, hu⟩ => ⟨l, hGs l _ _ (RowR.of_ext h) hl, hu.kept (grown_of_ext h none) (Classical.em _)⟩⟩
theorem RowA.drew (hGs : ∀ l a b, RowR v.ownBlock (n * size) a b → G l a → G l b) (w : World) : RowA base e size n m v xs G w w.drew := RowA.of_ext hGs (Ext.drew w)
theorem rowA_set {w : World} {g cap : Nat} {cur : Array Value} {news : List Value} (hGs : ∀ l a b, RowR (some g) (n * size) a b → G l a → G l b) (hGn : G news w) (hg : w.heap[g]? = some (.cells cur e (0, 0))) (hlen : (xs ++ news).length = (n + m) * size) (hl : news.length = m * size) (hnc : n ≤ cap) (hcs : cur.size = cap * size) (htake : cur.toList.take (n * size) = xs) (hroom : n + m ≤ cap) :
    RowA base e size n m (.slice (some ⟨g, 0, none⟩) n cap) xs G w (w.setRow g (cur.toList.take (n * size) ++ news ++ cur.toList.drop (n * size + news.length)).toArray) := by
  have hxs : xs.length = n * size := by rw [List.length_append, hl, Nat.add_mul] at hlen; omega
  have hfit : n * size + news.length ≤ cur.size := by rw [hl, hcs, ← Nat.add_mul]; exact Nat.mul_le_mul_right _ hroom
  have hsz : (cur.toList.take (n * size) ++ news ++ cur.toList.drop (n * size + news.length)).toArray.size = cur.size := by
    simp only [List.size_toArray, List.length_append, List.length_take, List.length_drop, Array.length_toList]
    omega
  have hRR : RowR (some g) (n * size) w (w.setRow g (cur.toList.take (n * size) ++ news ++ cur.toList.drop (n * size + news.length)).toArray) := by
    refine ⟨rfl, rfl, rfl, by simp, fun b _ hn => setRow_other w g b _ (fun e => hn (by simp [e])), fun b hb cur0 t f hc => ?_⟩
    obtain rfl : g = b := by simpa using hb
    rw [hg] at hc
    cases hc
    refine ⟨_, setRow_heap w g cur _ e _ hg, hsz, ?_⟩
    simp only
    rw [htake, List.append_assoc, List.take_append_of_le_length (by omega), List.take_of_length_le (by omega)]
  refine ⟨hRR, fun u ⟨l, hl0, hu⟩ => ?_⟩
  have hln : l.length = news.length := by have := hu.1; rw [List.length_append] at this hlen; omega
  rcases hu.2 with h1 | ⟨g', cap', cur', e1, hb, hg', h1, h2, h3, h4⟩
  · exact ⟨l, hGs l _ _ hRR hl0, hu.1, .inl h1⟩
  · subst e1
    by_cases e2 : g' = g
    · subst e2
      rw [hg] at hg'
      cases hg'
      refine ⟨news, hGs _ _ _ hRR hGn, hlen, .inr ⟨g', cap', _, rfl, hb, setRow_heap w g' cur _ e _ hg, h1, h2, hsz.trans h3, ?_⟩⟩
      simp only
      rw [htake, ← hlen]
      exact List.take_left
    · exact ⟨l, hGs l _ _ hRR hl0, hu.1, .inr ⟨g', cap', cur', rfl, hb, (setRow_other w g g' _ e2).trans hg', h1, h2, h3, h4⟩⟩
end
section
variable {P : Program} (w : World)
theorem run_append_row (base : Nat) (t tx ty e : TypeId) (i : TypeInfo) (z : Value) (size bytes : Nat) (ht : P.underlying t = some (.slice e)) (hi : P.info? e = some i) (hz : i.zero = some z)
    (hsize : i.size = size) (hby : i.bytes = bytes) (hzs : z.cells.size = size) (hsz : 0 < size)
    (v : Value) (n : Nat) (xs : List Value) (hown : w.ownsRow base e size v n xs)
    (x : Value) (m : Nat) (news : List Value) (hs : Src P size tx x m news w)
    (G : List Value → World → Prop) (hGs : ∀ l a b, RowR v.ownBlock (n * size) a b → G l a → G l b) (hGn : G news w) (h63 : n + m ≤ maxLen) (hbytes : (n + m) * bytes ≤ 140737488355328) (hbase : base ≤ w.heap.size) :
    ∃ v' w', (Builtin.append_ #[t, tx] ty #[v, x]).run P w = .ok v' w' ∧ w'.ownsRow base e size v' (n + m) (xs ++ news) ∧ RowA base e size n m v xs G w w' ∧ (v'.ownBlock = v.ownBlock ∨ v'.ownBlock = some w.heap.size) := by
  subst hsize
  subst hby
  have hl := hs.newsLen
  have hsmall : n + m ≤ 9223372036854775807 := by simp only [maxLen] at h63; omega
  have hlen : (xs ++ news).length = (n + m) * i.size := by rw [List.length_append, hown.1, hl, Nat.add_mul]
  have grown : ∀ (old : Nat), old < n + m → 
      (w.drew.alloc (.cells ((xs ++ news).toArray ++ Builtin.zeroCells z.cells (grownCap w (n + m) old e - (n + m))) e)).ownsRow base e i.size
        (.slice (some ⟨w.heap.size, 0, none⟩) (n + m) (grownCap w (n + m) old e)) (n + m) (xs ++ news) ∧
      Ext w (w.drew.alloc (.cells ((xs ++ news).toArray ++ Builtin.zeroCells z.cells (grownCap w (n + m) old e - (n + m))) e)) := by
    intro old ho
    have hge := grownCap_ge w (n + m) old e
    have hcm : grownCap w (n + m) old e ≤ maxLen := grownCap_le_maxLen w (n + m) old e h63
    refine ⟨⟨hlen, .inr ⟨w.heap.size, _, _, rfl, hbase, heap_alloc_new w.drew _, hge, hcm, ?_, ?_⟩⟩, (Ext.drew w).trans (Ext.alloc _ _)⟩
    · simp only [Array.size_append, List.size_toArray, size_zeroCells, hzs, hlen, ← Nat.add_mul]
      congr 1
      omega
    · simp only [Array.toList_append]
      rw [← hlen]
      exact List.take_left
  rcases hown.2 with ⟨rfl, rfl⟩ | ⟨g, cap, cur, rfl, hbg, hg, hnc, hcm, hcs, htake⟩
  · have hx : xs = [] := List.eq_nil_of_length_eq_zero (by simpa using hown.1)
    subst hx
    by_cases hm : m = 0
    · subst hm
      have hn : news = [] := List.eq_nil_of_length_eq_zero (by simpa using hl)
      subst hn
      refine ⟨.slice none 0 0, w, ?_, World.ownsRow_nil w base e i.size, RowA.refl _ _ _ _ _ _ _ _ _, .inl rfl⟩
      have h1 := hs.len
      have h2 := hs.cells
      rcases hs.kind with ⟨e', hk⟩ | hk <;> simp [Builtin.append_, run_underlying ht, run_underlying hk, sizeOf, typeInfo, hi, h1, h2]
    · have hr := run_append_grow_src (P := P) w t tx ty e i z ht hi hz none 0 0 [] (by simp [Builtin.firstCells]) x m news hs (by omega) (by omega) (growslice_fits (by omega) hbytes)
      have hgr := grown 0 (by omega)
      exact ⟨_, _, hr, hgr.1, RowA.of_ext hGs hgr.2, .inr rfl⟩
  · by_cases hroom : n + m ≤ cap
    · have hfit : n * i.size + news.length ≤ cur.size := by rw [hl, hcs, ← Nat.add_mul]; exact Nat.mul_le_mul_right _ hroom
      have hr : (Builtin.append_ #[t, tx] ty #[.slice (some ⟨g, 0, none⟩) n cap, x]).run P w =
          .ok (.slice (some ⟨g, 0, none⟩) (n + m) cap) (w.setRow g (cur.toList.take (n * i.size) ++ news ++ cur.toList.drop (n * i.size + news.length)).toArray) := by
        have hst := run_storeCells_at P g (n * i.size) e news 0 cur w hg (by simpa using hfit) hs.one
        simp only [Nat.add_zero] at hst
        have h1 := hs.len
        have h2 := hs.cells
        rcases hs.kind with ⟨e', hk⟩ | hk <;> simp [Builtin.append_, run_underlying ht, run_underlying hk, sizeOf, typeInfo, hi, h1, hroom, h2, Addr.add_lit, hst]
      refine ⟨_, _, hr, ⟨hlen, .inr ⟨g, cap, _, rfl, hbg, setRow_heap w g cur _ e _ hg, hroom, hcm, ?_, ?_⟩⟩, rowA_set hGs hGn hg hlen hl hnc hcs htake hroom, .inl rfl⟩
      · simp only [List.size_toArray, List.length_append, List.length_take, List.length_drop, Array.length_toList]
        omega
      · rw [htake, ← hlen]
        exact List.take_left
    · have holds : ∀ j u, xs[j]? = some u → w.drew.cell? ((⟨g, 0, none⟩ : Addr).add j) = some u := fun j u hj => by simpa using hown.cells (g := g) rfl j u hj
      have hr := run_append_grow_src (P := P) w t tx ty e i z ht hi hz (some ⟨g, 0, none⟩) n cap xs (run_firstCells_some w.drew i.size n ⟨g, 0, none⟩ n cap xs hown.1 holds) x m news hs (by omega) (by omega) (growslice_fits (by omega) hbytes)
      have hgr := grown cap (by omega)
      exact ⟨_, _, hr, hgr.1, RowA.of_ext hGs hgr.2, .inr rfl⟩

end

/-- Props that stay under a relation. -/
def stayR (Rl : World → World → Prop) : List Sp → Prop
  | [] => True
  | .val _ :: r => stayR Rl r
  | .prop p :: r => (∀ v w w', p v w → Rl w w' → p v w') ∧ stayR Rl r
theorem stayR.at {Rl : World → World → Prop} : ∀ {l : List Sp}, stayR Rl l → ∀ (i : Nat) (s : Sp), l[i]? = some s → ∀ v w w', s.ok v w → Rl w w' → s.ok v w'
  | [], _, i, s, h, _, _, _, _, _ => by simp at h
  | .val _ :: r, h, 0, s, hs, v, w, w', hv, _ => by simp at hs; subst hs; exact hv
  | .prop p :: r, h, 0, s, hs, v, w, w', hv, hE => by simp at hs; subst hs; exact h.1 v w w' hv hE
  | .val _ :: r, h, i + 1, s, hs, v, w, w', hv, hE => stayR.at (l := r) h i s (by simpa using hs) v w w' hv hE
  | .prop p :: r, h, i + 1, s, hs, v, w, w', hv, hE => stayR.at (l := r) h.2 i s (by simpa using hs) v w w' hv hE
theorem region_sp_lastR {P : Program} {ops : Array Oper} {Q : Exit → Act → World → Prop} {a0 : Act} {w0 : World} (m : Nat) (Rl : World → World → Prop) (hRr : ∀ w, Rl w w) (hRt : ∀ a b c, Rl a b → Rl b c → Rl a c) (hRd : ∀ w, Rl w w.drew) (sp : List Sp) (hst : stayR Rl sp) (k : Nat) (ol : Oper) (hk : ops[k]? = some ol) (hks : ops.size = k + 1) (hlen : sp.length = k) (hg : ol.guard = none) (hdn : ol.dst = none)
    (hchk : (dstsOk ops && aheadB ops && coverOk ops && ((ops.toList.take (ops.size - 1)).all fun o => o.dst.any fun d => decide (d < m))) = true) (hsz : a0.tmps.size = m)
    (hd : DutiesR Rl P ops Q (spP sp) a0 w0 0 (ops.toList.take k))
    (hlast : ∀ w, Rl w0 w → forS sp w fun us => ol.wp P (filled (ops.toList.take k) us a0) w (fun a' w' => Q .normal a' w') Q) : RegionP P ops Q a0 w0 := by
  refine region_lastR_e m Rl hRr hRt hRd (spP sp) (fun i v w w' h hE => ?_) hchk hsz k ol hk hks hg hdn hd fun us w hE hl hP => ?_
  · unfold spP at h ⊢
    cases hs : sp[i]? with
    | none => rw [hs] at h; exact h.elim
    | some s => rw [hs] at h; exact hst.at i s hs v w w' h hE
  · exact forS_all sp w _ (hlast w hE) us (by rw [hl, List.length_take, Array.length_toList, hks, hlen]; omega) hP
end Go.Proofs.YtclekhjnnljjlaaGreatDoor
namespace Go.Proofs.YtclekhjnnljjlaaGreatDoor
open Go.RowKit
set_option maxHeartbeats 2000000
set_option maxRecDepth 100000


def PhiU (n0 bt bn g : Nat) (s : Int) (x : Value) (bb : Bool) : Nat → Value → World → Prop
  | 0, v, _ => v = .pointer (some ⟨bt, 0, none⟩)
  | 1, v, _ => v = .pointer (some ⟨bt, 0, none⟩)
  | 2, v, _ => v = .pointer (some ⟨bt, 0, none⟩)
  | 3, v, _ => v = .map (some bn)
  | 4, v, _ => v = .pointer (some ⟨g, 0, none⟩)
  | 5, v, _ => v = .int .i64 s
  | 6, v, _ => v = .tuple #[x, .bool bb]
  | 7, v, _ => v = .tuple #[x, .bool bb]
  | 8, v, _ => v = x
  | 9, v, _ => v = .bool bb
  | 10, v, w => ∃ (g : Nat) (cs : Array Value), v = .pointer (some ⟨g, 0, none⟩) ∧ n0 ≤ g ∧ w.heap[g]? = some (.cells cs 62 (0, 0)) ∧ cs.size = 3
  | 12, v, _ => v = .bool bb
  | _, _, _ => True
theorem PhiU.stab (B n0 bt bn g : Nat) (s : Int) (x : Value) (bb : Bool) (i : Nat) (v : Value) (w w' : World) (h : PhiU n0 bt bn g s x bb i v w) (he : Shp B w w') : PhiU n0 bt bn g s x bb i v w' := by
  unfold PhiU at h ⊢
  split at h <;> first | exact h | (obtain ⟨g, cs, h1, h2, h3, h4⟩ := h; obtain ⟨c', k1, k2⟩ := he.rows g cs _ h3; exact ⟨g, c', h1, h2, k1, k2.trans h4⟩)

theorem there_regionS {id : Nat} {Q : Exit → Act → World → Prop} {a0 : Act} {w0 : World} (s0 s1 s2 s3 s4 s5 s6 s7 s8 s9 s10 s11 tt bx : Tmp) (pos : String) (m : Nat)
    (hsz : a0.tmps.size = m) (hnd : decide ([s0, s1, s2, s3, s4, s5, s6, s7, s8, s9, s10, s11].Nodup) = true) (hlt : ([s0, s1, s2, s3, s4, s5, s6, s7, s8, s9, s10, s11].all fun s => decide (s < m)) = true)
    (hnt : ([s0, s1, s2, s3, s4, s5, s6, s7, s8, s9, s10, s11].all fun s => s != tt && s != bx) = true)
    {bt bn : Nat} {mm : List (IKey × Value)} (hblk : w0.heap[bt]? = some (.cells #[.map (some bn)] 114 (0, 0))) (hm : IMap Tryz.prog 2 w0 bn mm) (hse : ∀ k v, iget mm k = some v → ∃ (q : Se) (x : Option Addr) (l c : Nat), v = .agg (seC q (.slice x l c))) (g : Nat) (s : Int) (cs : Array Value) (hbox : w0.heap[g]? = some (.cells cs 62 (0, 0))) (hcs : cs[0]? = some (.int .i64 s)) (hps : (Lit.int .i64 s).wf = true)
    (htt : a0.tmps.getD tt undef = .pointer (some ⟨bt, 0, none⟩)) (hbx : a0.tmps.getD bx undef = .pointer (some ⟨g, 0, none⟩))
    (hend : ∀ u0 u1 u2 u3 u4 u5 u6 u7 u8 u9 u10 w, Ext w0 w → Q .normal (((((((((((((a0.put (some s0) u0).put (some s1) u1).put (some s2) u2).put (some s3) u3).put (some s4) u4).put (some s5) u5).put (some s6) u6).put (some s7) u7).put (some s8) u8).put (some s9) u9).put (some s10) u10).put (some s11) (.bool (iget mm s).isSome))) w) :
    (Code.region id #[{ dst := some s0, op := Op.move (Operand.tmp tt), type := 55, pos := pos, after := #[], guard := none }, { dst := some s1, op := Op.nilCheck (Operand.tmp s0), type := 0, pos := pos, after := #[{ on := 0, ground := Ground.data }], guard := none }, { dst := some s2, op := Op.fieldAddr 114 (Operand.tmp s1) 0, type := 0, pos := pos, after := #[{ on := 1, ground := Ground.data }], guard := none }, { dst := some s3, op := Op.load 112 (Operand.tmp s2), type := 112, pos := pos, after := #[{ on := 2, ground := Ground.data }], guard := none }, { dst := some s4, op := Op.fieldAddr 62 (Operand.tmp bx) 0, type := 0, pos := pos, after := #[], guard := none }, { dst := some s5, op := Op.load 2 (Operand.tmp s4), type := 2, pos := pos, after := #[{ on := 4, ground := Ground.data }], guard := none }, { dst := some s6, op := Op.lookup 112 (Operand.tmp s3) (Operand.tmp s5) true, type := 116, pos := pos, after := #[{ on := 3, ground := Ground.data }, { on := 5, ground := Ground.data }], guard := none }, { dst := some s7, op := Op.move (Operand.tmp s6), type := 116, pos := pos, after := #[{ on := 6, ground := Ground.data }], guard := none }, { dst := some s8, op := Op.extract (Operand.tmp s7) 0, type := 62, pos := pos, after := #[{ on := 7, ground := Ground.data }], guard := none }, { dst := some s9, op := Op.extract (Operand.tmp s7) 1, type := 4, pos := pos, after := #[{ on := 7, ground := Ground.data }, { on := 11, ground := Ground.gcOnly Departure.lateStores }], guard := none }, { dst := some s10, op := Op.alloc 62, type := 0, pos := pos, after := #[], guard := none }, { dst := none, op := Op.store 62 (Operand.tmp s10) (Operand.tmp s8), type := 0, pos := pos, after := #[{ on := 10, ground := Ground.data }, { on := 8, ground := Ground.data }, { on := 0, ground := Ground.phase }, { on := 1, ground := Ground.phase }, { on := 2, ground := Ground.phase }, { on := 3, ground := Ground.phase }, { on := 4, ground := Ground.phase }, { on := 5, ground := Ground.phase }, { on := 6, ground := Ground.phase }, { on := 7, ground := Ground.phase }, { on := 8, ground := Ground.phase }, { on := 9, ground := Ground.textOnly Departure.lateStores }, { on := 10, ground := Ground.phase }], guard := none }, { dst := some s11, op := Op.assign (Operand.tmp s9), type := 4, pos := pos, after := #[{ on := 9, ground := Ground.data }, { on := 11, ground := Ground.chain }, { on := 0, ground := Ground.phase }, { on := 1, ground := Ground.phase }, { on := 2, ground := Ground.phase }, { on := 3, ground := Ground.phase }, { on := 4, ground := Ground.phase }, { on := 5, ground := Ground.phase }, { on := 6, ground := Ground.phase }, { on := 7, ground := Ground.phase }, { on := 8, ground := Ground.phase }, { on := 9, ground := Ground.phase }, { on := 10, ground := Ground.phase }, { on := 11, ground := Ground.phase }], guard := none }] true).wp Tryz.prog Q a0 w0 := by
  have hx : ∃ (q : Se) (x : Option Addr) (l c : Nat), (iget mm s).getD (.agg zeroSe) = .agg (seC q (.slice x l c)) := by
    cases hq : iget mm s with
    | none => exact ⟨⟨0, 0, []⟩, none, 0, 0, rfl⟩
    | some v =>
      obtain ⟨q, x, l, c, rfl⟩ := hse _ _ hq
      exact ⟨q, x, l, c, rfl⟩
  obtain ⟨q, xa, xl, xc, hx⟩ := hx
  have hbtl := (Array.getElem?_eq_some_iff.1 hblk).1
  have hgl : g < w0.heap.size := (Array.getElem?_eq_some_iff.1 hbox).1
  simp only [List.all_cons, List.all_nil, Bool.and_eq_true, bne_iff_ne, ne_eq, Bool.and_true, decide_eq_true_eq] at hnt hlt
  have nt : ∀ (ops : Array Oper) (t : Tmp), ops.toList.map (·.dst) = [some s0, some s1, some s2, some s3, some s4, some s5, some s6, some s7, some s8, some s9, some s10, none, some s11] → (¬ s0 = t ∧ ¬ s1 = t ∧ ¬ s2 = t ∧ ¬ s3 = t ∧ ¬ s4 = t ∧ ¬ s5 = t ∧ ¬ s6 = t ∧ ¬ s7 = t ∧ ¬ s8 = t ∧ ¬ s9 = t ∧ ¬ s10 = t ∧ ¬ s11 = t) → (ops.toList.all fun o => o.dst != some t) = true := fun ops t h hn => by
    have e : (ops.toList.all fun o => o.dst != some t) = (ops.toList.map (·.dst)).all fun d => d != some t := by rw [List.all_map]; rfl
    rw [e, h]
    simp [hn]
  refine wp_region_rel_e m (Shp w0.heap.size) (Shp.refl _) (fun _ _ _ => Shp.trans) (fun w => ⟨(Below.refl _ w).drew, fun _ cs _ h => ⟨cs, h, rfl⟩⟩) (by kernel_rfl) (PhiU w0.heap.size bt bn g s ((iget mm s).getD (.agg zeroSe)) (iget mm s).isSome) (PhiU.stab _ _ _ _ _ _ _ _) ?hund ?hchk hsz ?hd ?hend
  case hund =>
    intro i v w h ho
    by_cases h11 : i = 11
    · subst h11; exact trivial
    · match i, h11, ho with
      | 0, _, ho | 1, _, ho | 2, _, ho | 3, _, ho | 4, _, ho | 5, _, ho | 6, _, ho | 7, _, ho | 8, _, ho | 9, _, ho | 10, _, ho | 12, _, ho => simp at ho
      | i + 13, _, ho => simp at ho
  case hchk =>
    simp only [Bool.and_eq_true]
    refine ⟨⟨hnd, ?_⟩, ?_⟩
    · rfl
    · simp [hlt]
  case hend =>
    intro us w hS hl hP
    obtain ⟨u0, u1, u2, u3, u4, u5, u6, u7, u8, u9, u10, u11, u12, rfl⟩ := us13 us hl
    have e12 : u12 = .bool (iget mm s).isSome := hP 12 _ rfl
    rw [e12]
    have h := hend u0 u1 u2 u3 u4 u5 u6 u7 u8 u9 u10 w hS.below
    simp only [filled, List.zip_cons_cons, List.zip_nil_right, List.foldl_cons, List.foldl_nil, put_none]
    exact h
  case hd =>
    refine ⟨?_, ?_, ?_, ?_, ?_, ?_, ?_, ?_, ?_, ?_, ?_, ?_, ?_, trivial⟩
    · exact dutyR_free rfl fun a w' hE hF hA => wp_value (w' := w') (ex_move rfl) ⟨_, rfl, hF.slot tt _ (nt _ tt rfl (by simp [hnt])) htt, Shp.refl _ _⟩
    · refine dutyR_free rfl fun a w' hE hF hA => ?_
      have x1 : a.eval (.tmp s0) = _ := hA.slot 0 s0 rfl rfl ⟨⟨0, .data⟩, by simp, rfl, rfl⟩
      exact wp_value (ex_nilCheck rfl _ x1) ⟨_, rfl, rfl, Shp.refl _ _⟩
    · refine dutyR_free rfl fun a w' hE hF hA => ?_
      have x1 : a.eval (.tmp s1) = _ := hA.slot 1 s1 rfl rfl ⟨⟨1, .data⟩, by simp, rfl, rfl⟩
      exact wp_value (v := .pointer (some ⟨bt, 0, none⟩)) (w' := w') (by simp only [execOp, x1]; simp [go_sem]) ⟨_, rfl, rfl, Shp.refl _ _⟩
    · refine dutyR_free rfl fun a w' hE hF hA => ?_
      have x1 : a.eval (.tmp s2) = _ := hA.slot 2 s2 rfl rfl ⟨⟨2, .data⟩, by simp, rfl, rfl⟩
      refine wp_value (ex_cell rfl _ (.map (some bn)) x1 ?_ rfl Tryz.underlying112) ⟨_, rfl, rfl, Shp.refl _ _⟩
      exact cell_of_row w' bt 0 _ _ _ ((hE.below.block bt hbtl).trans hblk)
    · refine dutyR_free rfl fun a w' hE hF hA => ?_
      have x1 : a.eval (.tmp bx) = _ := hF.slot bx _ (nt _ bx rfl (by simp [hnt])) hbx
      exact wp_value (v := .pointer (some ⟨g, 0, none⟩)) (w' := w') (by simp only [execOp, x1]; simp [go_sem]) ⟨_, rfl, rfl, Shp.refl _ _⟩
    · refine dutyR_free rfl fun a w' hE hF hA => ?_
      have x1 : a.eval (.tmp s4) = _ := hA.slot 4 s4 rfl rfl ⟨⟨4, .data⟩, by simp, rfl, rfl⟩
      refine wp_value (ex_cell rfl _ (.int .i64 s) x1 ?_ rfl Tryz.underlying2) ⟨_, rfl, rfl, Shp.refl _ _⟩
      rw [cell_of_row w' g 0 _ _ _ ((hE.below.block g hgl).trans hbox)]
      exact hcs
    · refine dutyR_free rfl fun a w' hE hF hA => ?_
      have x1 : a.eval (.tmp s3) = _ := hA.slot 3 s3 rfl rfl ⟨⟨3, .data⟩, by simp, rfl, rfl⟩
      have x2 : a.eval (.tmp s5) = _ := hA.slot 5 s5 rfl rfl ⟨⟨5, .data⟩, by simp, rfl, rfl⟩
      have hq := IMap.look_ok (e := 62) (hm.keep (hE.below.block bn hm.lt)) intT Tryz.underlying112 (z := .agg zeroSe) (by kernel_rfl) hps
      exact wp_value (w' := w') (by simp only [execOp, x1, x2, hq, Sem.run_bind, Result.andThen_ok, Sem.run_pure]) ⟨_, rfl, rfl, Shp.refl _ _⟩
    · refine dutyR_free rfl fun a w' hE hF hA => ?_
      exact wp_value (w' := w') (ex_move rfl) ⟨_, rfl, hA.slot 6 s6 rfl rfl ⟨⟨6, .data⟩, by simp, rfl, rfl⟩, Shp.refl _ _⟩
    · refine dutyR_free rfl fun a w' hE hF hA => ?_
      have x1 : a.eval (.tmp s7) = _ := hA.slot 7 s7 rfl rfl ⟨⟨7, .data⟩, by simp, rfl, rfl⟩
      exact wp_value (v := (iget mm s).getD (.agg zeroSe)) (w' := w') (by simp only [execOp, x1]; simp [go_sem]) ⟨_, rfl, rfl, Shp.refl _ _⟩
    · refine dutyR_free rfl fun a w' hE hF hA => ?_
      have x1 : a.eval (.tmp s7) = _ := hA.slot 7 s7 rfl rfl ⟨⟨7, .data⟩, by simp, rfl, rfl⟩
      exact wp_value (v := .bool (iget mm s).isSome) (w' := w') (by simp only [execOp, x1]; simp [go_sem]) ⟨_, rfl, rfl, Shp.refl _ _⟩
    · refine dutyR_free rfl fun a w' hE hF hA => ?_
      exact wp_value (w' := w'.alloc (.cells zeroSe 62)) (v := .pointer (some ⟨w'.heap.size, 0, none⟩)) (by kernel_rfl) ⟨_, rfl, ⟨_, _, rfl, hE.below.size, heap_alloc_new w' _, rfl⟩, Shp.of_ext (Ext.alloc _ _) hE.below.size⟩
    · refine dutyR_free rfl fun a w' hE hF hA => ?_
      obtain ⟨g', c', x1, hg0, hg', hc'⟩ := hA.slot 10 s10 rfl rfl ⟨⟨10, .data⟩, by simp, rfl, rfl⟩
      have x2 : a.eval (.tmp s8) = _ := hA.slot 8 s8 rfl rfl ⟨⟨8, .data⟩, by simp, rfl, rfl⟩
      rw [hx] at x2
      refine wp_store_row 62 (.tmp s10) (.tmp s8) rfl g' _ x1 x2 62 c' hg' sizeSe hc' (cells_se q xa xl xc) ⟨_, rfl, trivial, ⟨⟨rfl, rfl, rfl, by simp, fun k hk => setRow_other _ _ _ _ (by omega)⟩, fun k cs t hk => ?_⟩⟩
      by_cases e : k = g'
      · subst e
        rw [hg'] at hk
        cases hk
        exact ⟨_, setRow_heap _ _ _ _ _ _ hg', hc'.symm⟩
      · exact ⟨cs, (setRow_other _ _ _ _ e).trans hk, rfl⟩
    · refine dutyR_free rfl fun a w' hE hF hA => ?_
      exact wp_value (w' := w') (ex_assign rfl) ⟨_, rfl, hA.slot 9 s9 rfl rfl ⟨⟨9, .data⟩, by simp, rfl, rfl⟩, Shp.refl _ _⟩
end Go.Proofs.YtclekhjnnljjlaaGreatDoor
namespace Go.Proofs.YtclekhjnnljjlaaGreatDoor
open Go.RowKit
set_option maxHeartbeats 2000000
set_option maxRecDepth 100000

def eqId (x y : ByteArray × ByteArray) : Bool := x.1.toList == y.1.toList && x.2.toList == y.2.toList
theorem eqId_eq (x y : ByteArray × ByteArray) : eqId x y = decide (x = y) := by
  unfold eqId
  have h : ∀ a b : ByteArray, (a.toList == b.toList) = decide (a = b) := fun a b => by
    rw [ByteArray.toList_eq, ByteArray.toList_eq]
    by_cases e : a = b
    · subst e; simp
    · have : a.data.toList ≠ b.data.toList := fun h => e (by cases a; cases b; simp at h; rw [ByteArray.mk.injEq]; exact Array.toList_inj.1 (by simpa using h))
      simp only [e, decide_false, beq_eq_false_iff_ne, ne_eq]
      exact this
  rw [h, h]
  by_cases h1 : x.1 = y.1 <;> by_cases h2 : x.2 = y.2 <;> simp [h1, h2, Prod.ext_iff]
theorem guard_id : Tryz.prog.eqGuardType Tryz.prog.depth 139 = false := by kernel_rfl
theorem eql_id (w : World) (x y : ByteArray × ByteArray) : (binOp .eql 139 (.agg #[.string x.1, .string x.2]) (.agg #[.string y.1, .string y.2])).run Tryz.prog w = .ok (.bool (eqId x y)) w := by
  rw [run_eql_struct]
  have := eq_id w 9998 x.1 x.2 y.1 y.2
  unfold eqId
  rw [this]
  rfl
theorem neq_id (w : World) (x y : ByteArray × ByteArray) : (binOp .neq 139 (.agg #[.string x.1, .string x.2]) (.agg #[.string y.1, .string y.2])).run Tryz.prog w = .ok (.bool (!eqId x y)) w := by
  rw [run_neq_struct]
  have := eq_id w 9998 x.1 x.2 y.1 y.2
  unfold eqId
  rw [this]
  rfl
/-- The k-th identity's two cells. -/
theorem idCells {B : Nat} {w : World} {a : Option Addr} {l : List (ByteArray × ByteArray)} (h : Cells B w a (idCs l)) (k : Nat) (hk : k < l.length) :
    ∃ b off, a = some ⟨b, off, none⟩ ∧ b < B ∧ w.cell? ⟨b, off + k * 2, none⟩ = some (.string l[k].1) ∧ w.cell? ⟨b, off + k * 2 + 1, none⟩ = some (.string l[k].2) := by
  obtain ⟨g0, g1⟩ := idCs_get (List.getElem?_eq_getElem hk)
  obtain ⟨b, off, rfl, hb, c0⟩ := h _ _ g0
  obtain ⟨b1, off1, e1, _, c1⟩ := h _ _ g1
  simp only [Option.some.injEq, Addr.mk.injEq] at e1
  obtain ⟨rfl, rfl, _⟩ := e1
  exact ⟨b, off, rfl, hb, c0, by rw [Nat.add_assoc]; exact c1⟩
def anyId (l : List (ByteArray × ByteArray)) (x : ByteArray × ByteArray) : Bool := l.any fun y => decide (y = x)

theorem idx_any (l : List (ByteArray × ByteArray)) (x : ByteArray × ByteArray) (a : Option Addr) (c : Nat) (w : World) (hc : Cells w.heap.size w a (idCs l)) (hm : l.length ≤ 9223372036854775800) :
    Calls Tryz.prog 112 #[.slice a l.length c, .agg #[.string x.1, .string x.2]] w fun e w' => (∃ i : Int, e = .returned (.int .i64 i) ∧ decide (0 ≤ i) = anyId l x) ∧ Ext w w' := by
  obtain ⟨W1, hW1⟩ : ∃ W1, W1 = w.alloc (.cells #[.string x.1, .string x.2] 139) := ⟨_, rfl⟩
  have hE1 : Ext w W1 := by rw [hW1]; exact Ext.alloc _ _
  have hr1 : W1.heap[w.heap.size]? = some (.cells #[.string x.1, .string x.2] 139 (0, 0)) := by rw [hW1]; exact heap_alloc_new w _
  have hs1 : W1.heap.size = w.heap.size + 1 := by rw [hW1]; simp
  have hx0 : W1.cell? ⟨w.heap.size, 0, none⟩ = some (.string x.1) := cell_of_row _ _ _ _ _ _ hr1
  have hx1 : W1.cell? ⟨w.heap.size, 1, none⟩ = some (.string x.2) := cell_of_row _ _ _ _ _ _ hr1
  have hg := guard_id
  have hql := eql_id
  have HW := Lib.hid hW1
  clear hW1
  go_enter Tryz.func112, Tryz.ntmps112
  go_wp2
  rw [← HW.out]
  go_loopw [5, 8] (fun _ i wr => ∃ (k n : Nat), k ≤ l.length ∧ i = .int .i64 k ∧ wr = W1.drewN n ∧ Hid (∀ j (h : j < l.length), j < k → l[j] ≠ x)) (fun _ i _ => l.length - (intOf i).toNat)
  case atStart => exact ⟨0, 0, Nat.zero_le _, rfl, rfl, fun j _ h => by omega⟩
  case round =>
    obtain ⟨k, n, hk, rfl, rfl, HQ⟩ := hrel
    by_cases hlt : k < l.length
    · obtain ⟨b, o, rfl, hb, c0, c1⟩ := idCells (hc.below hE1) k hlt
      have hk1 : (k : Int) < l.length := by omega
      have hk0 : (0 : Int) ≤ k := by omega
      cases he : eqId x l[k]
      · have hne : l[k] ≠ x := fun e => by rw [eqId_eq, e] at he; simp at he
        have HN : Hid (∀ j (h : j < l.length), j < k + 1 → l[j] ≠ x) := fun j h hj => by
          by_cases e : j = k
          · subst e; exact hne
          · exact HQ.out j h (by omega)
        clear hne hc
        go_wp2
        go_quiet (fail)
        go_wp2
        go_roundw
        case rel => exact ⟨k + 1, _, by omega, by go_num, rfl, HN⟩
        case measure => simp [intOf]; omega
      · have hx : l[k] = x := by
          rw [eqId_eq] at he
          exact (of_decide_eq_true he).symm
        have H : Hid (decide ((0 : Int) ≤ (k : Int)) = anyId l x) := by
          unfold Hid anyId
          rw [decide_eq_true hk0]
          exact (List.any_eq_true.2 ⟨l[k], List.getElem_mem hlt, by simpa using hx⟩).symm
        clear hx hc
        go_wp2
        go_quiet (fail)
        go_wp2
        go_ret
        exact ⟨⟨_, rfl, H.out⟩, hE1.trans (below_drewN (below_drewN (Below.refl _ _) _) _)⟩
    · have H : Hid (decide ((0 : Int) ≤ -1) = anyId l x) := by
        unfold Hid anyId
        rw [show decide ((0 : Int) ≤ -1) = false from by decide]
        refine (List.any_eq_false.2 fun y hy => ?_).symm
        obtain ⟨j, hj, rfl⟩ := List.mem_iff_getElem.1 hy
        simpa using HQ.out j hj (by omega)
      go_wp2
      go_ret
      exact ⟨⟨_, rfl, H.out⟩, hE1.trans (below_drewN (Below.refl _ _) _)⟩
theorem contains_id (l : List (ByteArray × ByteArray)) (x : ByteArray × ByteArray) (a : Option Addr) (c : Nat) (w : World) (hc : Cells w.heap.size w a (idCs l)) (hm : l.length ≤ 9223372036854775800) :
    Calls Tryz.prog 80 #[.slice a l.length c, .agg #[.string x.1, .string x.2]] w fun e w' => e = .returned (.bool (anyId l x)) ∧ Ext w w' := by
  obtain ⟨W1, hW1⟩ : ∃ W1, W1 = w.alloc (.cells #[.string x.1, .string x.2] 139) := ⟨_, rfl⟩
  have hE1 : Ext w W1 := by rw [hW1]; exact Ext.alloc _ _
  have hs1 : W1.heap.size = w.heap.size + 1 := by rw [hW1]; simp
  have C1 := idx_any l x a c W1 ((hc.below hE1).mono (by omega)) hm
  rw [hW1] at C1
  have C1 := Lib.hid C1
  have HW := Lib.hid hW1
  clear hW1
  go_enter Tryz.func80, Tryz.ntmps80
  go_wp2_with fail
  refine C1.out.mono ?_
  rintro e w2 ⟨⟨i, rfl, hi⟩, hE2⟩
  rw [← HW.out] at hE2
  have HI := Lib.hid hi
  clear hi C1
  go_wp2
  go_ret
  exact ⟨by rw [← HI.out]; rfl, hE1.trans hE2⟩
end Go.Proofs.YtclekhjnnljjlaaGreatDoor
namespace Go.Proofs.YtclekhjnnljjlaaGreatDoor
open Go.RowKit Go.Lib
set_option maxHeartbeats 2000000
set_option maxRecDepth 100000

theorem pieces_len {c : UInt8} : ∀ {l p : List UInt8}, p ∈ pieces c l → p.length ≤ l.length
  | [], p, h => by simp [pieces] at h; simp [h]
  | b :: r, p, h => by
    unfold pieces at h
    split at h
    · rcases List.mem_cons.1 h with rfl | h
      · simp
      · have := pieces_len h; simp; omega
    · split at h
      · rename_i q qs e
        rcases List.mem_cons.1 h with rfl | h
        · have := pieces_len (c := c) (l := r) (p := q) (by rw [e]; simp)
          simp; omega
        · have := pieces_len (c := c) (l := r) (p := p) (by rw [e]; simp [h])
          simp; omega
      · simp at h; rw [h]; simp
/-- The pieces that strings.Split hands. -/
def dotB : ByteArray := ⟨#[46]⟩
def piecesB (s : ByteArray) : List ByteArray := splitB dotB 0 (countB s dotB) s
theorem piecesB_data (s : ByteArray) : (piecesB s).map (·.data.toList) = pieces 46 s.data.toList := by
  unfold piecesB
  rw [splitB_data]
  exact split_pieces 46 s.data.toList.length s.data.toList (Nat.le_refl _)
theorem piecesB_count (s : ByteArray) : (piecesB s).length = countB s dotB + 1 := splitB_all dotB (by decide) 0 _ s rfl
theorem piecesB_size {s p : ByteArray} (h : p ∈ piecesB s) : p.size ≤ s.size := by
  have h1 : p.data.toList ∈ pieces 46 s.data.toList := by rw [← piecesB_data]; exact List.mem_map.2 ⟨p, h, rfl⟩
  have := pieces_len h1
  have e1 : p.data.toList.length = p.size := Array.length_toList
  have e2 : s.data.toList.length = s.size := Array.length_toList
  omega
theorem addrP_step {l : List UInt8} {q x : Nat} {p : List UInt8} (hx : (pieces 46 l |>.take q).foldl addrStep (some 0) = some x) (hp : (pieces 46 l)[q]? = some p) :
    ((pieces 46 l).take (q + 1)).foldl addrStep (some 0) = (decR p 255).map fun n => x * 256 + n := by
  obtain ⟨hq, e⟩ := List.getElem?_eq_some_iff.1 hp
  rw [List.take_succ_eq_append_getElem hq, List.foldl_append, hx, e]
  simp [addrStep]
theorem addrP_none {l : List UInt8} {q x : Nat} {p : List UInt8} (hx : (pieces 46 l |>.take q).foldl addrStep (some 0) = some x) (hp : (pieces 46 l)[q]? = some p) (hd : decR p 255 = none) : addrP l = none := by
  have h1 := addrP_step hx hp
  rw [hd] at h1
  have e : pieces 46 l = (pieces 46 l).take (q + 1) ++ (pieces 46 l).drop (q + 1) := (List.take_append_drop _ _).symm
  unfold addrP
  split
  · rw [e, List.foldl_append, h1]
    exact foldl_none _
  · rfl
theorem shl_or {x n : Nat} (h : x < 16777216) (hn : n ≤ 255) : x <<< 8 ||| n = x * 256 + n := by
  rw [← Nat.shiftLeft_add_eq_or_of_lt (by omega : n < 2 ^ 8), Nat.shiftLeft_eq]
theorem bits_or6 {x n : Nat} (h : x < 16777216) (hn : n ≤ 255) : bits BinOp.or IntKind.u32 ((x : Int) * 256) (n : Int) = ((x * 256 + n : Nat) : Int) := by
  have e := shl_or h hn
  rw [Nat.shiftLeft_eq] at e
  have e1 : ((x : Int) * 256) = ((x * 256 : Nat) : Int) := by omega
  have b1 : (BitVec.ofInt IntKind.u32.bits ((x * 256 : Nat) : Int)).toNat = x * 256 := by
    rw [BitVec.toNat_ofInt]
    show (((x * 256 : Nat) : Int) % ((2 ^ 32 : Nat) : Int)).toNat = _
    omega
  have b2 : (BitVec.ofInt IntKind.u32.bits ((n : Nat) : Int)).toNat = n := by
    rw [BitVec.toNat_ofInt]
    show ((n : Int) % ((2 ^ 32 : Nat) : Int)).toNat = _
    omega
  unfold bits
  rw [e1]
  simp only [BitVec.toNat_or, b1, b2]
  rw [e]
  unfold IntKind.wrap
  simp [IntKind.signed, IntKind.bits]
  omega
/-- An address, if it is one. -/
def AddrOut (l : List UInt8) (w : World) (e : Ending) (w' : World) : Prop := (∃ a : Int, e = .returned (.tuple #[.int .u32 a, .bool (addrP l).isSome])) ∧ Ext w w'

theorem address6_any (s : ByteArray) (w : World) (hs : s.size < 4294967281) (hT : Txt6 w) :
    Calls Tryz.prog 111 #[.string s] w (AddrOut s.data.toList w) := by
  obtain ⟨m, hm⟩ := hT.max
  have C1 := Tryz.strings_Split s dotB m w hs hm (by decide)
  have hd : dotB = ⟨#[46]⟩ := rfl
  have hc := piecesB_count s
  have hps := piecesB_data s
  have hsz := fun p => @piecesB_size s p
  change Calls _ _ _ _ (fun e w' => e = .returned (.slice (some ⟨w.heap.size, 0, none⟩) (countB s dotB + 1) (countB s dotB + 1)) ∧ w' = w.alloc (.cells ((piecesB s).map Value.string).toArray 9)) at C1
  rw [← hc] at C1
  clear hc
  generalize piecesB s = ps at C1 hps hsz
  have hlen : (pieces 46 s.data.toList).length = ps.length := by rw [← hps]; simp
  have HP := Lib.hid hps
  have HL := Lib.hid hlen
  clear hps hlen
  rw [hd] at C1
  obtain ⟨W1, hW1⟩ : ∃ W1, W1 = w.alloc (.cells (ps.map Value.string).toArray 9) := ⟨_, rfl⟩
  have hE1 : Ext w W1 := by rw [hW1]; exact Ext.alloc _ _
  have hrow : W1.heap[w.heap.size]? = some (.cells (ps.map Value.string).toArray 9 (0, 0)) := by rw [hW1]; exact heap_alloc_new w _
  rw [← hW1] at C1
  clear hW1
  by_cases h4 : ¬ ps.length = 4
  · have H : Hid (addrP s.data.toList = none) := by unfold Hid addrP; rw [if_neg (by rw [HL.out]; exact h4)]
    have h4' : ((ps.length : Int) != 4) = true := by simp; omega
    clear h4
    go_enter Tryz.func111, Tryz.ntmps111
    go_wp2_with fail
    refine C1.mono ?_
    rintro e w1 ⟨rfl, rfl⟩
    go_wp2
    go_ret2
    exact ⟨⟨0, by rw [H.out]; rfl⟩, hE1⟩
  have h4 : ps.length = 4 := by omega
  have h4' : ((ps.length : Int) != 4) = false := by simp; omega
  go_enter Tryz.func111, Tryz.ntmps111
  go_wp2_with fail
  refine C1.mono ?_
  rintro e w1 ⟨rfl, rfl⟩
  clear C1
  go_wp2
  go_loopw [5, 7, 8, 16] (fun a _ _ i wr => ∃ q x : Nat, i = .int .i64 q ∧ q ≤ 4 ∧ a = .int .u32 x ∧ x < 256 ^ q ∧ Hid (((pieces 46 s.data.toList).take q).foldl addrStep (some 0) = some x) ∧ Ext w1 wr) (fun _ _ _ i _ => 4 - (intOf i).toNat)
  case atStart => exact ⟨0, 0, rfl, by omega, rfl, by omega, rfl, Ext.refl _⟩
  case round =>
    obtain ⟨q, x, rfl, hq, rfl, hx, HX, hE⟩ := hrel
    by_cases hlt : q < 4
    · obtain ⟨p, hp⟩ : ∃ p, ps[q]? = some p := ⟨ps[q]'(by omega), List.getElem?_eq_getElem (by omega)⟩
      have hpp : (pieces 46 s.data.toList)[q]? = some p.data.toList := by rw [← HP.out, List.getElem?_map, hp]; rfl
      have hpsz : p.size ≤ s.size := hsz p (List.mem_of_getElem? hp)
      have hcell : wr.cell? ⟨w.heap.size, q, none⟩ = some (.string p) := by
        rw [cell_of_row _ _ _ _ _ _ ((hE.block _ (Array.getElem?_eq_some_iff.1 hrow).1).trans hrow)]
        simp [hp]
      have hqi : (q : Int) < ps.length := by omega
      have C2 := decimal6_any p 255 (by omega) wr (by omega) (hT.ext (hE1.trans hE))
      rw [decP_eq _ (by omega)] at C2
      cases hd : decR p.data.toList 255 with
      | none =>
        have H : Hid (addrP s.data.toList = none) := addrP_none HX.out hpp hd
        rw [hd] at C2
        have HC := Lib.hid C2
        clear C2 hd hpp HX hp
        go_wp2_with fail
        refine HC.out.mono ?_
        rintro e w2 ⟨rfl, hE2⟩
        clear HC
        simp only [optI]
        go_wp2
        go_ret2
        exact ⟨⟨0, by rw [H.out]; rfl⟩, hE1.trans (hE.trans hE2)⟩
      | some n =>
        have hn := dec_le hd
        have H2 : Hid (((pieces 46 s.data.toList).take (q + 1)).foldl addrStep (some 0) = some (x * 256 + n)) := by
          unfold Hid
          rw [addrP_step HX.out hpp, hd]; rfl
        have hx2 : x * 256 + n < 256 ^ (q + 1) := by rw [Nat.pow_succ]; omega
        have hx3 : x < 16777216 := Nat.lt_of_lt_of_le hx (Nat.le_trans (Nat.pow_le_pow_right (by omega) (show q ≤ 3 by omega)) (by decide))
        have hor := shl_or hx3 hn
        rw [hd] at C2
        have HC := Lib.hid C2
        clear C2 hd hpp HX hp
        go_wp2_with fail
        refine HC.out.mono ?_
        rintro e w2 ⟨rfl, hE2⟩
        clear HC
        simp only [optI]
        go_wp2
        refine ⟨⟨q + 1, x * 256 + n, by go_num, by omega, ?_, hx2, H2, hE.trans hE2⟩, by simp [intOf]; omega⟩
        rw [bits_or6 hx3 hn]
    · have hq4 : q = 4 := by omega
      subst hq4
      have H : Hid ((addrP s.data.toList).isSome = true) := by
        have h1 := HX.out
        rw [List.take_of_length_le (by rw [HL.out]; omega)] at h1
        unfold Hid addrP
        rw [if_pos (by rw [HL.out]; exact h4), h1]; rfl
      clear HX
      go_wp2
      go_ret2
      exact ⟨⟨_, by rw [H.out]; rfl⟩, hE1.trans hE⟩
end Go.Proofs.YtclekhjnnljjlaaGreatDoor
namespace Go.Proofs.YtclekhjnnljjlaaGreatDoor
open Go.RowKit Go.Lib
set_option maxHeartbeats 2000000
set_option maxRecDepth 100000

theorem eqT (s : ByteArray) (t : List UInt8) : (s.toList == t) = decide (s.data.toList = t) := by
  rw [ByteArray.toList_eq]
  by_cases h : s.data.toList = t <;> simp [h]
theorem textOk_size {s : ByteArray} (h : textOk s = true) : s.size ≤ 256 := by
  unfold textOk at h
  simp only [Bool.and_eq_true, decide_eq_true_eq] at h
  exact h.1.1.2

theorem Tabs.ext6 {w w' : World} (h : Tabs w) (hE : Ext w w') : Tabs w' := h.below hE (World.block_lt_of_cell? _ _ (h.2 0 (by omega)).1)
theorem ident6_any (sc id : ByteArray) (w : World) (h1 : sc.size ≤ 9223372036854775800) (h2 : id.size ≤ 9223372036854775800) (hT : Tabs w) (hX : Txt6 w) :
    Calls Tryz.prog 79 #[.agg #[.string sc, .string id]] w fun e w' => e = .returned (.bool (identity sc id)) ∧ Ext w w' := by
  have HI := Lib.hid (identity_prog sc id)
  obtain ⟨W0, hW0⟩ : ∃ W0, W0 = w.alloc (.cells #[.string sc, .string id] 139) := ⟨_, rfl⟩
  have hE0 : Ext w W0 := by rw [hW0]; exact Ext.alloc _ _
  have hr0 : W0.heap[w.heap.size]? = some (.cells #[.string sc, .string id] 139 (0, 0)) := by rw [hW0]; exact heap_alloc_new w _
  have hlt0 : w.heap.size < W0.heap.size := by rw [hW0]; simp
  have C1 := text6_any sc W0 h1 (hT.ext6 hE0)
  rw [hW0] at C1
  have C1 := Lib.hid C1
  have HW0 := Lib.hid hW0
  clear hW0
  by_cases ht : textOk sc = false
  · have H : Hid (identity sc id = false) := by unfold Hid; rw [HI.out, ht]; rfl
    rw [ht] at C1
    clear ht HI
    go_enter Tryz.func79, Tryz.ntmps79
    go_wp2_with fail
    refine C1.out.mono ?_
    rintro e w1 ⟨rfl, hB1⟩
    rw [← HW0.out] at hB1
    clear C1
    go_wp2
    go_ret
    exact ⟨by rw [H.out]; rfl, hE0.trans hB1⟩
  have ht : textOk sc = true := by simpa using ht
  rw [ht] at C1
  by_cases hu : textOk id = false
  · have H : Hid (identity sc id = false) := by unfold Hid; rw [HI.out, hu]; simp
    clear ht HI
    go_enter Tryz.func79, Tryz.ntmps79
    go_wp2_with fail
    refine C1.out.mono ?_
    rintro e w1 ⟨rfl, hB1⟩
    rw [← HW0.out] at hB1
    clear C1
    have hr1 : w1.heap[w.heap.size]? = some (.cells #[.string sc, .string id] 139 (0, 0)) := (hB1.block _ hlt0).trans hr0
    have hc1 : w1.cell? ⟨w.heap.size, 1, none⟩ = some (.string id) := cell_of_row _ _ _ _ _ _ hr1
    have C2 := text6_any id w1 h2 (hT.ext6 (hE0.trans hB1))
    rw [hu] at C2
    clear hu
    go_wp2_with fail
    refine C2.mono ?_
    rintro e w2 ⟨rfl, hB2⟩
    clear C2
    go_wp2
    go_ret
    exact ⟨by rw [H.out]; rfl, hE0.trans (Ext.trans hB1 hB2)⟩
  have hu : textOk id = true := by simpa using hu
  have hid := textOk_size hu
  have q1 := eqT sc [100, 105, 103, 101, 115, 116]
  have q2 := eqT sc [105, 112]
  have q3 := eqT sc [115, 117, 112, 101, 114]
  have HI2 : Hid (identity sc id = if sc.data.toList = digestT then colon id else if sc.data.toList = ipT then (addrP id.data.toList).isSome else decide (sc.data.toList = superT)) := by
    unfold Hid
    rw [HI.out, ht, hu]; rfl
  clear HI ht
  go_enter Tryz.func79, Tryz.ntmps79
  go_wp2_with fail
  refine C1.out.mono ?_
  rintro e w1 ⟨rfl, hB1⟩
  rw [← HW0.out] at hB1
  clear C1
  have hr1 : w1.heap[w.heap.size]? = some (.cells #[.string sc, .string id] 139 (0, 0)) := (hB1.block _ hlt0).trans hr0
  have hc1 : w1.cell? ⟨w.heap.size, 1, none⟩ = some (.string id) := cell_of_row _ _ _ _ _ _ hr1
  have C2 := text6_any id w1 h2 (hT.ext6 (hE0.trans hB1))
  rw [hu] at C2
  clear hu
  go_wp2_with fail
  refine C2.mono ?_
  rintro e w2 ⟨rfl, hB2⟩
  clear C2
  have hr2 : w2.heap[w.heap.size]? = some (.cells #[.string sc, .string id] 139 (0, 0)) := (hB2.block _ (Nat.lt_of_lt_of_le hlt0 hB1.size)).trans hr1
  have hc20 : w2.cell? ⟨w.heap.size, 0, none⟩ = some (.string sc) := cell_of_row _ _ _ _ _ _ hr2
  have hc21 : w2.cell? ⟨w.heap.size, 1, none⟩ = some (.string id) := cell_of_row _ _ _ _ _ _ hr2
  have hE2 : Ext w w2 := hE0.trans (Ext.trans hB1 hB2)
  clear hr0 hr1 hr2 hc1 hB1 hB2
  by_cases e1 : sc.data.toList = digestT
  · have H : Hid (identity sc id = colon id) := by unfold Hid; rw [HI2.out, if_pos e1]
    have p1 : (sc.toList == [100, 105, 103, 101, 115, 116]) = true := by rw [q1]; exact decide_eq_true e1
    clear q1 q2 q3 HI2 e1
    go_wp2_with fail
    refine (digest6_any id _).mono ?_
    rintro e w3 ⟨rfl, rfl⟩
    go_wp2
    go_ret
    exact ⟨by rw [H.out]; rfl, hE2⟩
  have p1 : (sc.toList == [100, 105, 103, 101, 115, 116]) = false := by rw [q1]; exact decide_eq_false e1
  by_cases e2 : sc.data.toList = ipT
  · have H : Hid (identity sc id = (addrP id.data.toList).isSome) := by unfold Hid; rw [HI2.out, if_neg e1, if_pos e2]
    have p2 : (sc.toList == [105, 112]) = true := by rw [q2]; exact decide_eq_true e2
    clear q1 q2 q3 HI2 e1 e2
    have C3 := address6_any id w2 (by omega) (hX.ext hE2)
    go_wp2_with fail
    refine C3.mono ?_
    rintro e w3 ⟨⟨a, rfl⟩, hE3⟩
    clear C3
    go_wp2
    go_ret
    exact ⟨by rw [H.out]; rfl, hE2.trans hE3⟩
  have p2 : (sc.toList == [105, 112]) = false := by rw [q2]; exact decide_eq_false e2
  by_cases e3 : sc.data.toList = superT
  · have H : Hid (identity sc id = true) := by unfold Hid; rw [HI2.out, if_neg e1, if_neg e2]; exact decide_eq_true e3
    have p3 : (sc.toList == [115, 117, 112, 101, 114]) = true := by rw [q3]; exact decide_eq_true e3
    clear q1 q2 q3 HI2 e1 e2 e3
    go_wp2
    go_ret
    exact ⟨by rw [H.out]; rfl, hE2⟩
  · have H : Hid (identity sc id = false) := by unfold Hid; rw [HI2.out, if_neg e1, if_neg e2]; exact decide_eq_false e3
    have p3 : (sc.toList == [115, 117, 112, 101, 114]) = false := by rw [q3]; exact decide_eq_false e3
    clear q1 q2 q3 HI2 e1 e2 e3
    go_wp2
    go_ret
    exact ⟨by rw [H.out]; rfl, hE2⟩
end Go.Proofs.YtclekhjnnljjlaaGreatDoor
namespace Go.Proofs.YtclekhjnnljjlaaGreatDoor
open Go.RowKit
set_option maxHeartbeats 1000000
set_option maxRecDepth 100000

theorem more_any (b : Nat) (w : World) : Calls Tryz.prog 135 #[.int .u8 b] w fun e w' => e = .returned (.tuple #[.int .i64 (moreF b).1, .int .u8 (moreF b).2.1, .int .u8 (moreF b).2.2]) ∧ w = w' := by
  go_enter Tryz.func135, Tryz.ntmps135
  go_wp2
  all_goals (try go_ret3)
  all_goals (refine ⟨?_, rfl⟩; go_light; (try simp only [beq_iff_eq, beq_eq_false_iff_ne, ne_eq] at *))
  all_goals (have key : ∀ n lo h, moreF b = (n, lo, h) → Ending.returned (.tuple #[.int .i64 n, .int .u8 lo, .int .u8 h]) = Ending.returned (.tuple #[.int .i64 (moreF b).1, .int .u8 (moreF b).2.1, .int .u8 (moreF b).2.2]) := fun n lo h e => by rw [e])
  all_goals (refine key _ _ _ ?_; unfold moreF; repeat' split)
  all_goals (first | rfl | (exfalso; omega))

theorem utf8_any (s : ByteArray) (w : World) (hs : s.size ≤ 9223372036854775800) : Calls Tryz.prog 108 #[.string s] w fun e w' => e = .returned (.bool (Lib.validD s.data.toList)) ∧ w = w' := by
  have hz := Lib.hid (validAt_zero s)
  go_enter Tryz.func108, Tryz.ntmps108
  go_wp2
  go_loop [3] (fun i => ∃ q : Nat, i = .int .i64 q ∧ q ≤ s.size ∧ Hid (validAt s 0 = validAt s q)) (fun i => s.size - (intOf i).toNat)
  case atStart => exact ⟨0, rfl, Nat.zero_le _, rfl⟩
  case round =>
    obtain ⟨q, rfl, hq, Hv⟩ := hrel
    by_cases hlt : q < s.size
    · have hbg := bat_get s q hlt
      have hb := bat_lt s q
      have hC := more_any (bat s q)
      obtain ⟨n0, lo0, hi0, hm⟩ : Exists fun n => Exists fun lo => Exists fun h => moreF (bat s q) = (n, lo, h) := ⟨_, _, _, rfl⟩
      have hcs := moreF_cases (bat s q) hb
      rw [hm] at hC hcs
      simp only [Prod.mk.injEq] at hcs
      by_cases hneg : n0 = -1
      · subst hneg
        have H1 : Hid (Lib.validD s.data.toList = false) := by
          unfold Hid; rw [← hz.out, Hv.out]; exact validAt_bad s q hlt (ut_none s q _ _ hm)
        rw [hbg] at hC
        have HC := Lib.hid hC
        clear hm hcs hC Hv hbg hb
        go_wp2_with fail
        refine (HC.out _).mono ?_
        rintro e w' ⟨rfl, rfl⟩
        go_wp2
        go_ret
        exact ⟨by rw [H1.out]; rfl, rfl⟩
      · obtain ⟨n, rfl⟩ : Exists fun n : Nat => n0 = (n : Int) := ⟨n0.toNat, by omega⟩
        have hn3 : n ≤ 3 := by omega
        have hlo : 0 ≤ lo0 ∧ lo0 ≤ 255 ∧ 0 ≤ hi0 ∧ hi0 ≤ 255 := by omega
        have hd := ut_dec s q hlt n lo0 hi0 hm
        have D1 := Lib.hid hd.1
        have D2 := Lib.hid hd.2.1
        have D3 := Lib.hid hd.2.2
        have hok1 : ∀ j, okAt s q lo0 hi0 j ↔ if j = 1 then lo0 ≤ bat s (q + 1) ∧ (bat s (q + 1) : Int) ≤ hi0 else 128 ≤ bat s (q + j) ∧ bat s (q + j) ≤ 191 := fun j => Iff.rfl
        have OK := Lib.hid hok1
        rw [hbg] at hC
        have HC := Lib.hid hC
        clear hd hm hcs hC hbg hb hok1
        by_cases hout : 0 < n ∧ s.size ≤ q + n
        · have H1 : Hid (Lib.validD s.data.toList = false) := by
            unfold Hid; rw [← hz.out, Hv.out]; exact validAt_bad s q hlt (D2.out hout.1 hout.2)
          obtain ⟨h0, h1⟩ := hout
          have h1' : (s.size : Int) ≤ (q : Int) + n := by omega
          go_wp2_with fail
          refine (HC.out _).mono ?_
          rintro e w' ⟨rfl, rfl⟩
          go_wp2
          go_ret
          exact ⟨by rw [H1.out]; rfl, rfl⟩
        · have hin : q + n < s.size := by omega
          have hin' : (q : Int) + n < s.size := by omega
          have hnn : (0 : Int) ≤ n := by omega
          clear hout
          go_wp2_with fail
          refine (HC.out _).mono ?_
          rintro e w' ⟨rfl, rfl⟩
          clear HC
          go_wp2
          go_loop [5, 6, 7] (fun lo h k => ∃ (m : Nat) (lk hk : Int), k = .int .i64 m ∧ 1 ≤ m ∧ m ≤ n + 1 ∧ lo = .int .u8 lk ∧ h = .int .u8 hk ∧ 0 ≤ lk ∧ lk ≤ 255 ∧ 0 ≤ hk ∧ hk ≤ 255 ∧ Hid (okAt s q lo0 hi0 m ↔ (lk ≤ bat s (q + m) ∧ (bat s (q + m) : Int) ≤ hk)) ∧ Hid (∀ j, 1 ≤ j → j < m → okAt s q lo0 hi0 j)) (fun _ _ k => n + 1 - (intOf k).toNat)
          case atStart => exact ⟨1, lo0, hi0, rfl, by omega, by omega, rfl, rfl, hlo.1, hlo.2.1, hlo.2.2.1, hlo.2.2.2, by unfold Hid; rw [OK.out 1, if_pos rfl], fun j h1 h2 => by omega⟩
          case round =>
            obtain ⟨m, lk, hk, rfl, hm1, hm2, rfl, rfl, hl0, hl1, hk0, hk1, HO, HA⟩ := hrel
            by_cases hmn : m ≤ n
            · have hpos : q + m < s.size := by omega
              have hbg := bat_get s (q + m) hpos
              by_cases hok : okAt s q lo0 hi0 m
              · have h2 := HO.out.1 hok
                rw [hbg] at h2
                obtain ⟨h3, h4⟩ := h2
                have HN : Hid (∀ j, 1 ≤ j → j < m + 1 → okAt s q lo0 hi0 j) := fun j h1 h2 => by
                  by_cases e : j = m
                  · rw [e]; exact hok
                  · exact HA.out j h1 (by omega)
                clear hbg hok HO HA
                go_wp2
                go_round
                case rel => exact ⟨m + 1, 128, 191, by go_num, by omega, by omega, rfl, rfl, by omega, by omega, by omega, by omega, by unfold Hid; rw [OK.out (m + 1), if_neg (by omega)]; omega, HN⟩
                case measure => simp [intOf]; omega
              · have H1 : Hid (Lib.validD s.data.toList = false) := by
                  unfold Hid; rw [← hz.out, Hv.out]; exact validAt_bad s q hlt (D3.out m hm1 hmn hin hok)
                have h2 : (s[q + m].toNat : Int) < lk ∨ (lk ≤ (s[q + m].toNat : Int) ∧ hk < (s[q + m].toNat : Int)) := by
                  have : ¬ (lk ≤ (bat s (q + m) : Int) ∧ (bat s (q + m) : Int) ≤ hk) := fun h => hok (HO.out.2 h)
                  rw [hbg] at this
                  omega
                clear hbg hok HO HA
                rcases h2 with h2 | ⟨h2, h3⟩
                all_goals
                  go_wp2
                  go_ret
                  exact ⟨by rw [H1.out]; rfl, rfl⟩
            · have hd := D1.out (.inr hin) (fun j h1 h2 => HA.out j h1 (by omega))
              have H1 : Hid (validAt s 0 = validAt s (q + 1 + n)) := by
                unfold Hid; rw [Hv.out, validAt_good s q hlt hd.1, hd.2]; congr 1; omega
              clear HO HA hd Hv
              go_wp2
              go_round
              case rel => exact ⟨q + 1 + n, by go_num, by omega, H1⟩
              case measure => simp [intOf]; omega
    · have H1 : Hid (Lib.validD s.data.toList = true) := by
        unfold Hid; rw [← hz.out, Hv.out]; exact validAt_end s q (by omega)
      clear Hv
      go_wp2
      go_ret
      exact ⟨by rw [H1.out]; rfl, rfl⟩

/-- What the reference says of a list's texts. -/
def textsN (l : List Ac) : Int := if l.any bigAc then 3 else if l.any badAc then 1 else 0

theorem textsN_eq (n : Nd) : rightN n = if !vpath n.path then 30 else if 1048575 < n.data.length ∨ 16 < n.acl.length then 3 else if textsN n.acl ≠ 0 then textsN n.acl else if badQ n then 1 else 0 := by
  unfold rightN textsN
  generalize n.acl.any bigAc = B
  generalize n.acl.any badAc = A
  generalize vpath n.path = v
  by_cases h : 1048575 < n.data.length ∨ 16 < n.acl.length
  · have h' : 1048575 < n.data.length ∨ 16 < n.acl.length ∨ B = true := h.elim .inl (fun k => .inr (.inl k))
    rw [if_pos h, if_pos h']
  · have h' : (1048575 < n.data.length ∨ 16 < n.acl.length ∨ B = true) ↔ B = true := ⟨fun k => k.elim (fun k => absurd (.inl k) h) (fun k => k.elim (fun k => absurd (.inr k) h) id), fun k => .inr (.inr k)⟩
    rw [if_neg h]
    simp only [h']
    cases B <;> cases A <;> simp

theorem texts_any (a : Option Addr) (c : Nat) (l : List Ac) (w : World) (hc : Cells w.heap.size w a (acCs l)) (hm : l.length ≤ 9223372036854775807) (ht : ∀ x ∈ l, x.scheme.size ≤ 9223372036854775800 ∧ x.id.size ≤ 9223372036854775800) :
    Calls Tryz.prog 74 #[.slice a l.length c] w fun e w' => e = .returned (.int .i64 (textsN l)) ∧ w = w' := by
  have HT := Lib.hid ht
  clear ht
  go_enter Tryz.func74, Tryz.ntmps74
  go_wp2
  go_loop [3, 4] (fun e i => ∃ (k : Nat) (ev : Int), k ≤ l.length ∧ i = .int .i64 k ∧ e = .int .i64 ev ∧ Hid (ev = if (l.take k).any badAc then 1 else 0) ∧ Hid ((l.take k).any bigAc = false)) (fun _ i => l.length - (intOf i).toNat)
  case atStart => exact ⟨0, 0, Nat.zero_le _, rfl, rfl, by simp [Hid], by simp [Hid]⟩
  case round =>
    obtain ⟨k, ev, hk, rfl, rfl, HE, HB⟩ := hrel
    by_cases hlt : k < l.length
    · obtain ⟨b, off, rfl, hb, c0, c1, c2⟩ := acCells hc k hlt
      have htk := HT.out l[k] (List.getElem_mem hlt)
      have ht1 := htk.1
      have ht2 := htk.2
      clear htk
      have hts : ∀ p : Ac → Bool, (l.take (k + 1)).any p = ((l.take k).any p || p l[k]) := fun p => by
        rw [List.take_succ_eq_append_getElem hlt, List.any_append]; simp
      have HTS := Lib.hid hts
      have hbig : l[k] ∈ l := List.getElem_mem hlt
      clear hts
      by_cases hbg : bigAc l[k] = true
      · have H1 : Hid (textsN l = 3) := by
          unfold Hid textsN
          rw [if_pos (List.any_eq_true.2 ⟨l[k], hbig, hbg⟩)]
        have h2 : 256 < (l[k].scheme.size : Int) ∨ ((l[k].scheme.size : Int) ≤ 256 ∧ 256 < (l[k].id.size : Int)) := by
          simp [bigAc] at hbg; omega
        clear hbg
        rcases h2 with h2 | ⟨h2, h3⟩
        all_goals
          go_wp2
          go_ret
          exact ⟨ret_int H1.out.symm, rfl⟩
      · have h2 : (l[k].scheme.size : Int) ≤ 256 ∧ (l[k].id.size : Int) ≤ 256 := by simp [bigAc] at hbg; omega
        obtain ⟨h2, h3⟩ := h2
        have hbf : bigAc l[k] = false := by simpa using hbg
        have HB2 : Hid ((l.take (k + 1)).any bigAc = false) := by unfold Hid; rw [HTS.out, HB.out, hbf]; rfl
        clear hbg hbf
        have U1 := utf8_any l[k].scheme
        have U2 := utf8_any l[k].id
        cases hv1 : Lib.validD l[k].scheme.data.toList
        · have HE2 : Hid ((1 : Int) = if (l.take (k + 1)).any badAc then 1 else 0) := by
            unfold Hid; rw [HTS.out, show badAc l[k] = true from by simp [badAc, hv1]]; simp
          rw [hv1] at U1
          have U1 := Lib.hid U1
          clear hv1 U2
          go_wp2_with fail
          refine (U1.out _ (by omega)).mono ?_
          rintro e w' ⟨rfl, rfl⟩
          go_wp2
          go_round
          case rel => exact ⟨k + 1, 1, by omega, by go_num, rfl, HE2, HB2⟩
          case measure => simp [intOf]; omega
        · rw [hv1] at U1
          have U1 := Lib.hid U1
          cases hv2 : Lib.validD l[k].id.data.toList
          · have HE2 : Hid ((1 : Int) = if (l.take (k + 1)).any badAc then 1 else 0) := by
              unfold Hid; rw [HTS.out, show badAc l[k] = true from by simp [badAc, hv2]]; simp
            rw [hv2] at U2
            have U2 := Lib.hid U2
            clear hv1 hv2
            go_wp2_with fail
            refine (U1.out _ (by omega)).mono ?_
            rintro e w' ⟨rfl, rfl⟩
            go_wp2_with fail
            refine (U2.out _ (by omega)).mono ?_
            rintro e w' ⟨rfl, rfl⟩
            go_wp2
            go_round
            case rel => exact ⟨k + 1, 1, by omega, by go_num, rfl, HE2, HB2⟩
            case measure => simp [intOf]; omega
          · have HE2 : Hid (ev = if (l.take (k + 1)).any badAc then 1 else 0) := by
              unfold Hid; rw [HTS.out, show badAc l[k] = false from by simp [badAc, hv1, hv2], Bool.or_false]; exact HE.out
            rw [hv2] at U2
            have U2 := Lib.hid U2
            clear hv1 hv2
            go_wp2_with fail
            refine (U1.out _ (by omega)).mono ?_
            rintro e w' ⟨rfl, rfl⟩
            go_wp2_with fail
            refine (U2.out _ (by omega)).mono ?_
            rintro e w' ⟨rfl, rfl⟩
            go_wp2
            go_round
            case rel => exact ⟨k + 1, ev, by omega, by go_num, rfl, HE2, HB2⟩
            case measure => simp [intOf]; omega
    · obtain rfl : k = l.length := by omega
      have H1 : Hid (textsN l = ev) := by
        unfold Hid textsN
        have e1 := HE.out
        have e2 := HB.out
        rw [List.take_length] at e1 e2
        rw [e2, e1]; simp
      clear HE HB
      go_wp2
      go_ret
      exact ⟨ret_int H1.out.symm, rfl⟩
end Go.Proofs.YtclekhjnnljjlaaGreatDoor
