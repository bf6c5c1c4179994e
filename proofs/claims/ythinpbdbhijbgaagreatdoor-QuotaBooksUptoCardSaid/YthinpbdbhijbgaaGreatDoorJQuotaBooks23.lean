/- Plain law: a quota book's numbers behind a change that is told. No program in sight. Plain law: what a change touches; it may be told to a book. No program in sight. A slice of changes, opened. The walk of layer 10's turn: a change, done to both trees. -/
import Derived.Test.YthinpbdbhijbgaaGreatDoorJQuotaBooks22
import Derived.Test.YthinpbdbhijbgaaGreatDoorJQuotaBooks14
import Derived.Test.YthinpbdbhijbgaaGreatDoorJQuotaBooks5
import Derived.Test.YthinpbdbhijbgaaGreatDoorJQuotaBooks12
import Derived.Test.YthinpbdbhijbgaaGreatDoorJQuotaBooks15
import Derived.Test.YthinpbdbhijbgaaGreatDoorJQuotaBooks11
namespace Go.Proofs.YthinpbdbhijbgaaGreatDoor
open Go.RowKit Go.Sort
set_option maxHeartbeats 1000000

theorem map_ext {α : Type} {A B : List (Key × α)} (hA : MSorted A) (hB : MSorted B) (h : ∀ k, mget A k = mget B k) : A = B := mem_ext_sorted hA hB fun x => by
  obtain ⟨k, v⟩ := x
  constructor
  · intro hx; have h1 := mget_of_mem hA hx; rw [h] at h1; exact mget_some_mem h1
  · intro hx; have h1 := mget_of_mem hB hx; rw [← h] at h1; exact mget_some_mem h1
theorem mget_filter {α : Type} {A : List (Key × α)} (hA : MSorted A) (p : Key × α → Bool) (k : Key) : mget (A.filter p) k = (mget A k).filter fun v => p (k, v) := by
  have hF : MSorted (A.filter p) := hA.filter _
  cases hg : mget A k with
  | none =>
    rw [Option.filter_none]
    exact mget_none_of fun x hx => mget_none hg x (List.mem_filter.1 hx).1
  | some v =>
    by_cases hp : p (k, v) = true
    · rw [Option.filter_some_pos (by exact hp)]
      exact mget_of_mem hF (List.mem_filter.2 ⟨mget_some_mem hg, hp⟩)
    · rw [Option.filter_some_neg (by simpa using hp)]
      refine mget_none_of fun x hx e => hp ?_
      obtain ⟨h1, h2⟩ := List.mem_filter.1 hx
      have h3 : (k, x.2) ∈ A := by rw [← e]; exact h1
      rw [mget_of_mem hA h3] at hg
      rw [← Option.some.inj hg, ← e]; exact h2

/-- The book of a tree. -/
def useB (M : List (Key × Nd)) : Bk := (M.filter fun x => x.2.has).map fun x => (x.1, wvM M x.2.path)
theorem bookV_use {M : List (Key × Nd)} (hM : MOk M) : bookV (useB M) = usedL M := by
  unfold bookV useB usedL usedP nds
  rw [List.filter_map, List.map_map, List.map_map]
  refine List.map_congr_left fun x hx => ?_
  have := hM.key x (List.mem_filter.1 hx).1
  show (x.1, usedW (wvM M x.2.path)) = (keyN x.2, usedV M x.2)
  rw [this]; rfl
theorem useB_length (M : List (Key × Nd)) : (useB M).length ≤ M.length := by
  unfold useB; rw [List.length_map]; exact List.length_filter_le _ _
theorem useB_sorted {M : List (Key × Nd)} (hM : MOk M) : MSorted (useB M) := by
  unfold useB MSorted
  rw [List.pairwise_map]
  exact hM.sorted.filter _
theorem useB_get {M : List (Key × Nd)} (hM : MOk M) (k : Key) : mget (useB M) k = ((mget M k).filter fun n => n.has).map fun n => wvM M n.path := by
  unfold useB
  have h := mget_map (fun n => wvM M n.path) (M.filter fun x => x.2.has) k
  rw [mget_filter hM.sorted] at h
  exact h

theorem stepS_get {U : Bk} (hU : MSorted U) (p k : Key) (dn db : Int) : mget (stepS U p dn db) k = (mget U k).map fun u => if p = k then (wrap64 (u.1 + dn), wrap64 (u.2 + db)) else u := by
  unfold stepS
  cases hg : mget U p with
  | none =>
    dsimp only
    by_cases e : p = k
    · subst e; rw [hg]; rfl
    · simp only [if_neg e, Option.map_id']
  | some u =>
    dsimp only
    by_cases e : p = k
    · subst e; rw [mget_mput_same hU, hg]; simp
    · rw [mget_mput_other hU _ (Ne.symm e)]
      simp only [if_neg e, Option.map_id']
def inL (L : List ByteArray) (q : ByteArray) : Bool := L.any fun x => x.data.toList == q.data.toList
theorem inL_iff (L : List ByteArray) (q : ByteArray) : inL L q = true ↔ q ∈ L := by
  unfold inL
  rw [List.any_eq_true]
  constructor
  · rintro ⟨x, hx, e⟩
    rw [beq_iff_eq] at e
    rw [← ba_ext e]; exact hx
  · exact fun h => ⟨q, h, by simp⟩
theorem shiftM_get (dn db : Int) (q : ByteArray) : ∀ (L : List ByteArray) (U : Bk), MSorted U → L.Nodup → mget (shiftM U L dn db) q.data.toList = (mget U q.data.toList).map fun u => if inL L q = true then (wrap64 (u.1 + dn), wrap64 (u.2 + db)) else u
  | [], U, _, _ => by simp [shiftM, inL]
  | p :: L, U, hU, hn => by
    obtain ⟨h1, h2⟩ := List.nodup_cons.1 hn
    have ih := shiftM_get dn db q L (stepS U p.data.toList dn db) (stepS_sorted hU _ _ _) h2
    show mget (shiftM (stepS U p.data.toList dn db) L dn db) q.data.toList = _
    rw [ih, stepS_get hU, Option.map_map]
    congr 1
    funext u
    simp only [Function.comp_apply]
    by_cases e : p.data.toList = q.data.toList
    · have e' : q = p := (ba_ext e).symm
      subst e'
      rw [if_neg (fun h => h1 ((inL_iff L q).1 h)), if_pos rfl, if_pos ((inL_iff (q :: L) q).2 (List.mem_cons_self ..))]
    · have e2 : (p.data.toList == q.data.toList) = false := by simpa using e
      have e' : inL (p :: L) q = inL L q := by unfold inL; rw [List.any_cons, e2, Bool.false_or]
      simp only [if_neg e, e']
theorem lineL_nodup {p : ByteArray} (hv : vpath p = true) : (lineL p).Nodup := (lineL_sorted hv).imp fun {a b} h e => by
  rw [e] at h
  exact absurd h (by rw [WideAt.bytes_irrefl]; simp)
/-- A shift over a path: of those under which it lies. -/
theorem shift_get {U : Bk} (hU : MSorted U) {p : ByteArray} (hv : vpath p = true) (dn db : Int) (q : ByteArray) : mget (shiftM U (lineA p) dn db) q.data.toList = (mget U q.data.toList).map fun u => if und p q = true then (wrap64 (u.1 + dn), wrap64 (u.2 + db)) else u := by
  unfold lineA
  rw [if_pos hv, shiftM_get dn db q _ U hU (lineL_nodup hv)]
  congr 1
  funext u
  have e : inL (lineL p) q = und p q := Bool.eq_iff_iff.2 ((inL_iff _ q).trans (lineL_und hv q))
  rw [e]

/-- What those that have come bear. -/
def shareS (left : Lit → Bool) (L : List (Key × Nd)) (q : ByteArray) (a : Nd → Nat) : Nat := ((L.filter fun x => !left (.string x.1) && und x.2.path q).map fun x => a x.2).sum
theorem share_start (L : List (Key × Nd)) (q : ByteArray) (a : Nd → Nat) : shareS (hasK L) L q a = 0 := by
  unfold shareS
  have : (L.filter fun x => !hasK L (.string x.1) && und x.2.path q) = [] := List.filter_eq_nil_iff.2 fun x hx => by
    have h : hasK L (.string x.1) = true := List.any_eq_true.2 ⟨x, hx, by show (x.1 == x.1) = true; simp⟩
    rw [h]; simp
  rw [this]; rfl
theorem share_end {left : Lit → Bool} (h : ∀ k, left k = false) (L : List (Key × Nd)) (q : ByteArray) (a : Nd → Nat) : shareS left L q a = wtN L q a := by
  unfold shareS wtN
  simp only [h, Bool.not_false, Bool.true_and]
theorem left_at (left : Lit → Bool) (p : Key) : (left (.string p) && !(Lit.string p).sameKey (.string p)) = false := by
  have : (Lit.string p).sameKey (.string p) = (p == p) := rfl
  rw [this]; simp
theorem left_other (left : Lit → Bool) {k p : Key} (h : k ≠ p) : (left (.string k) && !(Lit.string k).sameKey (.string p)) = left (.string k) := by
  have h1 : (Lit.string k).sameKey (.string p) = (k == p) := rfl
  have h2 : (k == p) = false := by simpa using h
  rw [h1, h2]; simp
theorem share_step {L : List (Key × Nd)} (hL : MSorted L) {left : Lit → Bool} {p : Key} {n : Nd} (hl : left (.string p) = true) (hg : mget L p = some n) (q : ByteArray) (a : Nd → Nat) :
    shareS (fun z => left z && !z.sameKey (.string p)) L q a = shareS left L q a + if und n.path q = true then a n else 0 := by
  have hb := mdel_back hL hg
  unfold shareS
  conv => lhs; rw [hb]
  conv => rhs; rw [hb]
  rw [sum_mins (fun x => !(left (.string x.1) && !(Lit.string x.1).sameKey (.string p)) && und x.2.path q) (fun x => a x.2) (p, n), sum_mins (fun x => !left (.string x.1) && und x.2.path q) (fun x => a x.2) (p, n)]
  have e1 : ((mdel L p).filter fun x => !(left (.string x.1) && !(Lit.string x.1).sameKey (.string p)) && und x.2.path q) = (mdel L p).filter fun x => !left (.string x.1) && und x.2.path q := List.filter_congr fun x hx => by
    rw [left_other left (mem_mdel.1 hx).2]
  rw [e1, left_at, hl]
  simp

/-- A pair of numbers, moved. -/
def mvB (u : Int × Int) (a b : Int) : Int × Int := (wrap64 (u.1 + a), wrap64 (u.2 + b))
theorem wrap_in {z : Int} (h : -9223372036854775808 ≤ z ∧ z ≤ 9223372036854775807) : wrap64 z = z := by unfold wrap64; omega
theorem wrap_wrap (a b : Int) : wrap64 (wrap64 a + b) = wrap64 (a + b) := by unfold wrap64; omega
theorem mvB_step (u : Int × Int) (a b c d : Int) : (wrap64 ((mvB u a b).1 + c), wrap64 ((mvB u a b).2 + d)) = mvB u (a + c) (b + d) := by
  unfold mvB
  simp only [wrap_wrap]
  rw [Int.add_assoc, Int.add_assoc]

section
variable (P I : List (Key × Nd)) (wv : ByteArray → Int × Int) (U : Bk)
def one1 : Nd → Nat := fun _ => 1
def len1 : Nd → Nat := fun n => n.data.length
def F1 (left : Lit → Bool) (q : ByteArray) : Option (Int × Int) := (mget U q.data.toList).map fun u => mvB u (shareS left I q one1) (shareS left I q len1)
def F2 (left : Lit → Bool) (q : ByteArray) : Option (Int × Int) := if (mget P q.data.toList).isSome = true ∧ left (.string q.data.toList) = false ∧ (mget I q.data.toList).isSome = false then none else
  (mget U q.data.toList).map fun u => mvB u ((wtN I q one1 : Nat) - (shareS left P q one1 : Nat)) ((wtN I q len1 : Nat) - (shareS left P q len1 : Nat))
def F0 : ByteArray → Option (Int × Int) := F2 P I U fun _ => false
def F3 (q : ByteArray) : Option (Int × Int) := match mget I q.data.toList with
  | none => none
  | some n => if n.has = false then none else if (F0 P I U q).isSome = false ∨ ((mget P q.data.toList).getD zeroN).has = false then some (wv q) else F0 P I U q
def JJ1 (left : Lit → Bool) (V : Bk) : Prop := MSorted V ∧ ∀ q : ByteArray, mget V q.data.toList = F1 I U left q
def JJ2 (left : Lit → Bool) (V : Bk) : Prop := MSorted V ∧ ∀ q : ByteArray, mget V q.data.toList = F2 P I U left q
def JJ3 (left : Lit → Bool) (V : Bk) : Prop := MSorted V ∧ ∀ q : ByteArray, mget V q.data.toList = if (mget I q.data.toList).isSome = true ∧ left (.string q.data.toList) = false then F3 P I wv U q else F0 P I U q
end

theorem setJ_ok {P I : List (Key × Nd)} {wv : ByteArray → Int × Int} {U : Bk} (hP : MSorted P) (hI : MSorted I) (hU : MSorted U) (hkP : ∀ x ∈ P, x.1 = keyN x.2 ∧ vpath x.2.path = true) (hkI : ∀ x ∈ I, x.1 = keyN x.2 ∧ vpath x.2.path = true)
    (hw : ∀ x ∈ U, wrap64 x.2.1 = x.2.1 ∧ wrap64 x.2.2 = x.2.2) : SetJ P I wv U (JJ1 I U) (JJ2 P I U) (JJ3 P I wv U) where
  i1 := ⟨hU, fun q => by
    unfold F1
    cases hg : mget U q.data.toList with
    | none => rfl
    | some u =>
      obtain ⟨h1, h2⟩ := hw _ (mget_some_mem hg)
      rw [share_start, share_start]
      unfold mvB
      simp only [Option.map_some, Int.natCast_zero, Int.add_zero]
      dsimp only at h1 h2
      rw [h1, h2]⟩
  s1 := fun left V p n ⟨hV, h⟩ hl hg => by
    obtain ⟨h1, h2⟩ := hkI _ (mget_some_mem hg)
    have hp : n.path = p := (ba_ext h1).symm
    dsimp only at h2
    rw [hp] at h2
    refine ⟨(shiftM_spec _ _ _ _ hV).1, fun q => ?_⟩
    rw [shift_get hV h2, h q]
    unfold F1
    rw [Option.map_map, share_step hI hl hg, share_step hI hl hg, hp]
    congr 1
    funext u
    simp only [Function.comp_apply]
    by_cases hu : und p q = true
    · simp only [if_pos hu, mvB_step]
      unfold one1 len1
      push_cast
      rfl
    · simp only [if_neg hu, Nat.add_zero]
  i2 := fun left V hl ⟨hV, h⟩ => ⟨hV, fun q => by
    rw [h q]
    unfold F1 F2
    have hn : ¬ ((mget P q.data.toList).isSome = true ∧ hasK P (.string q.data.toList) = false ∧ (mget I q.data.toList).isSome = false) := by
      rintro ⟨h1, h2, _⟩
      obtain ⟨n, hn⟩ := Option.isSome_iff_exists.1 h1
      have : hasK P (.string q.data.toList) = true := List.any_eq_true.2 ⟨_, mget_some_mem hn, by show (q.data.toList == q.data.toList) = true; simp⟩
      rw [this] at h2; cases h2
    rw [if_neg hn]
    simp only [share_start, share_end hl, Int.natCast_zero, Int.sub_zero]⟩
  s2 := fun left V p n ⟨hV, h⟩ hl hg => by
    obtain ⟨h1, h2⟩ := hkP _ (mget_some_mem hg)
    have hp : n.path = p := (ba_ext h1).symm
    dsimp only at h2
    rw [hp] at h2
    have hS := (shiftM_spec (-1) (-(n.data.length : Int)) (lineA p) V hV).1
    have hget : ∀ q : ByteArray, ¬ ((mget P q.data.toList).isSome = true ∧ left (.string q.data.toList) = false ∧ (mget I q.data.toList).isSome = false) →
        mget (shiftM V (lineA p) (-1) (-(n.data.length : Int))) q.data.toList = (mget U q.data.toList).map fun u => mvB u ((wtN I q one1 : Nat) - (shareS (fun z => left z && !z.sameKey (.string p.data.toList)) P q one1 : Nat)) ((wtN I q len1 : Nat) - (shareS (fun z => left z && !z.sameKey (.string p.data.toList)) P q len1 : Nat)) := fun q hc => by
      rw [shift_get hV h2, h q]
      unfold F2
      rw [if_neg hc, Option.map_map, share_step hP hl hg, share_step hP hl hg, hp]
      congr 1
      funext u
      simp only [Function.comp_apply]
      by_cases hu : und p q = true
      · simp only [if_pos hu, mvB_step]
        unfold one1 len1
        push_cast
        congr 1 <;> omega
      · simp only [if_neg hu, Nat.add_zero]
    unfold dropS
    refine ⟨by split; exact hS; exact mdel_sorted hS _, fun q => ?_⟩
    by_cases e : q = p
    · subst e
      have hc : ¬ ((mget P q.data.toList).isSome = true ∧ left (.string q.data.toList) = false ∧ (mget I q.data.toList).isSome = false) := fun h3 => by rw [hl] at h3; exact absurd h3.2.1 (by simp)
      unfold F2
      by_cases hi : (mget I q.data.toList).isSome = true
      · rw [if_pos hi, if_neg (fun h3 => by rw [hi] at h3; exact absurd h3.2.2 (by simp))]
        exact hget q hc
      · rw [if_neg hi, mget_mdel_same, if_pos ⟨by rw [hg]; rfl, left_at left _, by simpa using hi⟩]
    · have e' : q.data.toList ≠ p.data.toList := fun h3 => e (ba_ext h3)
      have hd : mget (if (mget I p.data.toList).isSome = true then shiftM V (lineA p) (-1) (-(n.data.length : Int)) else mdel (shiftM V (lineA p) (-1) (-(n.data.length : Int))) p.data.toList) q.data.toList = mget (shiftM V (lineA p) (-1) (-(n.data.length : Int))) q.data.toList := by
        split
        · rfl
        · exact mget_mdel_other hS e'
      rw [hd]
      by_cases hc : (mget P q.data.toList).isSome = true ∧ left (.string q.data.toList) = false ∧ (mget I q.data.toList).isSome = false
      · rw [shift_get hV h2, h q]
        unfold F2
        rw [if_pos hc, if_pos ⟨hc.1, (left_other left e').trans hc.2.1, hc.2.2⟩]
        rfl
      · rw [hget q hc]
        unfold F2
        have hc2 : ¬ ((mget P q.data.toList).isSome = true ∧ (fun z => left z && !z.sameKey (.string p.data.toList)) (.string q.data.toList) = false ∧ (mget I q.data.toList).isSome = false) := fun h3 => hc ⟨h3.1, (left_other left e').symm.trans h3.2.1, h3.2.2⟩
        rw [if_neg hc2]
  i3 := fun left V hl ⟨hV, h⟩ => ⟨hV, fun q => by
    rw [h q]
    have hn : ¬ ((mget I q.data.toList).isSome = true ∧ hasK I (.string q.data.toList) = false) := by
      rintro ⟨h1, h2⟩
      obtain ⟨n, hn⟩ := Option.isSome_iff_exists.1 h1
      have : hasK I (.string q.data.toList) = true := List.any_eq_true.2 ⟨_, mget_some_mem hn, by show (q.data.toList == q.data.toList) = true; simp⟩
      rw [this] at h2; cases h2
    rw [if_neg hn]
    have : left = fun _ => false := funext hl
    rw [this]; rfl⟩
  s3 := fun left V p n ⟨hV, h⟩ hl hg => by
    have hs : MSorted (setS P wv V p n) := by
      unfold setS
      split
      · exact mdel_sorted hV _
      · split
        · exact mput_sorted hV _ _
        · exact hV
    refine ⟨hs, fun q => ?_⟩
    by_cases e : q = p
    · subst e
      rw [if_pos ⟨by rw [hg]; rfl, left_at left _⟩]
      have hv := h q
      rw [if_neg (fun h3 => by rw [hl] at h3; exact absurd h3.2 (by simp))] at hv
      unfold setS F3
      rw [hg]
      dsimp only
      by_cases hh : n.has = false
      · rw [if_pos hh, if_pos hh, mget_mdel_same]
      · rw [if_neg hh, if_neg hh, hv]
        by_cases hc : (F0 P I U q).isSome = false ∨ ((mget P q.data.toList).getD zeroN).has = false
        · rw [if_pos hc, if_pos hc, mget_mput_same hV]
        · rw [if_neg hc, if_neg hc, hv]
    · have e' : q.data.toList ≠ p.data.toList := fun h3 => e (ba_ext h3)
      have hd : mget (setS P wv V p n) q.data.toList = mget V q.data.toList := by
        unfold setS
        split
        · exact mget_mdel_other hV e'
        · split
          · exact mget_mput_other hV _ e'
          · rfl
      rw [hd, h q, show (fun z => left z && !z.sameKey (.string p.data.toList)) (.string q.data.toList) = left (.string q.data.toList) from left_other left e']

/-- What a change is told by: the nodes of some paths, before and behind it. -/
structure Told2 (M M' P I : List (Key × Nd)) : Prop where
  p : ∀ k, (mget P k).isSome = true → mget P k = mget M k ∧ mget I k = mget M' k
  i : ∀ k, (mget I k).isSome = true → mget P k = mget M k ∧ mget I k = mget M' k
  rest : ∀ k, mget P k = none → mget I k = none → mget M k = mget M' k

theorem wtN_split (M : List (Key × Nd)) (t : Key → Bool) (q : ByteArray) (a : Nd → Nat) : wtN M q a = wtN (M.filter fun x => t x.1) q a + wtN (M.filter fun x => !t x.1) q a := by
  unfold wtN
  induction M with
  | nil => rfl
  | cons x M ih =>
    by_cases ht : t x.1 = true <;> by_cases hu : und x.2.path q = true <;> simp [ht, hu] at ih ⊢ <;> omega
theorem told_split {M M' P I : List (Key × Nd)} (hM : MSorted M) (hM' : MSorted M') (hP : MSorted P) (hI : MSorted I) (h : Told2 M M' P I) (q : ByteArray) (a : Nd → Nat) :
    ∃ r, wtN M q a = wtN P q a + r ∧ wtN M' q a = wtN I q a + r := by
  let t : Key → Bool := fun k => (mget P k).isSome || (mget I k).isSome
  have ht : ∀ k, t k = true → mget P k = mget M k ∧ mget I k = mget M' k := fun k hk => by
    rcases (Bool.or_eq_true_iff.1 hk : _ ∨ _) with h1 | h1
    · exact h.p k h1
    · exact h.i k h1
  have hf : ∀ k, t k = false → mget P k = none ∧ mget I k = none := fun k hk => by
    obtain ⟨h1, h2⟩ := Bool.or_eq_false_iff.1 hk
    exact ⟨by simpa using h1, by simpa using h2⟩
  have e1 : (M.filter fun x => t x.1) = P := map_ext (hM.filter _) hP fun k => by
    rw [mget_filter hM]
    cases hk : t k with
    | true => rw [(ht k hk).1]; cases mget M k <;> simp [hk]
    | false => rw [(hf k hk).1]; cases mget M k <;> simp [hk]
  have e2 : (M'.filter fun x => t x.1) = I := map_ext (hM'.filter _) hI fun k => by
    rw [mget_filter hM']
    cases hk : t k with
    | true => rw [(ht k hk).2]; cases mget M' k <;> simp [hk]
    | false => rw [(hf k hk).2]; cases mget M' k <;> simp [hk]
  have e3 : (M.filter fun x => !t x.1) = M'.filter fun x => !t x.1 := map_ext (hM.filter _) (hM'.filter _) fun k => by
    rw [mget_filter hM, mget_filter hM']
    cases hk : t k with
    | true => cases mget M k <;> cases mget M' k <;> simp [hk]
    | false => rw [h.rest k (hf k hk).1 (hf k hk).2]
  exact ⟨wtN (M.filter fun x => !t x.1) q a, by rw [← e1]; exact wtN_split M t q a, by rw [e3, ← e2]; exact wtN_split M' t q a⟩

theorem wv_small {M : List (Key × Nd)} (hM : MOk M) (hl : M.length ≤ 4398046511104) (q : ByteArray) : wtN M q one1 ≤ 4398046511104 ∧ wtN M q len1 ≤ 4611686018427387904 := by
  have u1 := wtN_le M q one1 1 (fun _ _ => Nat.le_refl _)
  have u2 := wtN_le M q len1 1048575 (fun y hy => (right_fit (hM.right y hy)).2.1)
  omega
theorem wvM_wt {M : List (Key × Nd)} (hM : MOk M) (q : ByteArray) : wvM M q = (((wtN M q one1 : Nat) : Int), ((wtN M q len1 : Nat) : Int)) := by
  unfold wvM
  rw [← wtN_one, bytesK_und hM]; rfl
/-- Behind a change that is told the book is the tree's. -/
theorem book_after {M M' P I : List (Key × Nd)} (hM : MOk M) (hM' : MOk M') (hl : M.length ≤ 4398046511104) (hl' : M'.length ≤ 4398046511104) (hP : MSorted P) (hI : MSorted I) (h : Told2 M M' P I) {left : Lit → Bool} (hlf : ∀ k, left k = false) {V : Bk} (hV : JJ3 P I (wvM M') (useB M) left V) : V = useB M' := by
  obtain ⟨hVs, hg⟩ := hV
  refine map_ext hVs (useB_sorted hM') fun k => ?_
  obtain ⟨q, rfl⟩ : ∃ q : ByteArray, q.data.toList = k := ⟨⟨⟨k⟩⟩, rfl⟩
  rw [hg q, useB_get hM']
  obtain ⟨r1, a1, b1⟩ := told_split hM.sorted hM'.sorted hP hI h q one1
  obtain ⟨r2, a2, b2⟩ := told_split hM.sorted hM'.sorted hP hI h q len1
  obtain ⟨c1, c2⟩ := wv_small hM' hl' q
  have hmv : ∀ n, mget M q.data.toList = some n → n.has = true → ((mget (useB M) q.data.toList).map fun u => mvB u ((wtN I q one1 : Nat) - (shareS (fun _ => false) P q one1 : Nat)) ((wtN I q len1 : Nat) - (shareS (fun _ => false) P q len1 : Nat))) = some (wvM M' q) := fun n hn hh => by
    have hp : n.path = q := (ba_ext (hM.at hn).1).symm
    rw [useB_get hM, hn, Option.filter_some_pos (by exact hh), Option.map_some, Option.map_some, hp, wvM_wt hM, wvM_wt hM', share_end (fun _ => rfl), share_end (fun _ => rfl)]
    unfold mvB
    congr 1
    have e1 : (((wtN M q one1 : Nat) : Int) + ((wtN I q one1 : Nat) - (wtN P q one1 : Nat))) = (wtN M' q one1 : Nat) := by omega
    have e2 : (((wtN M q len1 : Nat) : Int) + ((wtN I q len1 : Nat) - (wtN P q len1 : Nat))) = (wtN M' q len1 : Nat) := by omega
    dsimp only
    rw [e1, e2, wrap_in (by omega), wrap_in (by omega)]
  have hno : ∀ f : Int × Int → Int × Int, (mget M q.data.toList = none ∨ ∃ n, mget M q.data.toList = some n ∧ n.has = false) → (mget (useB M) q.data.toList).map f = none := fun f h1 => by
    rw [useB_get hM]
    rcases h1 with h1 | ⟨n, h1, h2⟩
    · rw [h1]; rfl
    · rw [h1, Option.filter_some_neg (by exact h2)]; rfl
  cases hi : mget I q.data.toList with
  | none =>
    rw [if_neg (by simp)]
    unfold F0 F2
    cases hp : mget P q.data.toList with
    | some m =>
      rw [if_pos ⟨rfl, rfl, by rw [hi]; rfl⟩]
      have h1 := (h.p _ (by rw [hp]; rfl)).2
      rw [← h1, hi]; rfl
    | none =>
      rw [if_neg (by simp)]
      have h1 := h.rest _ hp hi
      cases hm : mget M q.data.toList with
      | none => rw [hno _ (.inl hm), ← h1, hm]; rfl
      | some n =>
        have hpn : n.path = q := (ba_ext (hM.at hm).1).symm
        by_cases hh : n.has = true
        · rw [hmv n hm hh, ← h1, hm, Option.filter_some_pos (by exact hh), Option.map_some, hpn]
        · rw [hno _ (.inr ⟨n, hm, by simpa using hh⟩), ← h1, hm, Option.filter_some_neg (by simpa using hh)]; rfl
  | some n =>
    rw [if_pos ⟨rfl, hlf _⟩]
    obtain ⟨h1, h2⟩ := h.i q.data.toList (by rw [hi]; rfl)
    have hpn : n.path = q := (ba_ext (hM'.at (h2.symm.trans hi)).1).symm
    rw [← h2, hi]
    unfold F3
    rw [hi]
    dsimp only
    by_cases hh : n.has = true
    · rw [if_neg (by rw [hh]; simp), Option.filter_some_pos (by exact hh), Option.map_some, hpn]
      by_cases hc : (F0 P I (useB M) q).isSome = false ∨ ((mget P q.data.toList).getD zeroN).has = false
      · rw [if_pos hc]
      · rw [if_neg hc]
        have hph : ((mget P q.data.toList).getD zeroN).has = true := by
          cases hq : ((mget P q.data.toList).getD zeroN).has with
          | true => rfl
          | false => exact absurd (.inr hq) hc
        cases hp : mget P q.data.toList with
        | none => rw [hp] at hph; cases hph
        | some m =>
          rw [hp] at hph
          unfold F0 F2
          rw [if_neg (by rw [hi]; simp)]
          exact hmv m (h1.symm.trans hp) hph
    · rw [if_pos (by simpa using hh), Option.filter_some_neg (by simpa using hh)]; rfl
end Go.Proofs.YthinpbdbhijbgaaGreatDoor
namespace Go.Proofs.YthinpbdbhijbgaaGreatDoor
open Go.RowKit Go.Sort
set_option maxHeartbeats 1000000

/-- What a change makes of the nodes. -/
def chgM (k : Int) (n : Nd) (M : List (Key × Nd)) : List (Key × Nd) := if k = 1 then addM M n else if k = 2 then putM M n else if k = 3 then remM M n.path else M
/-- The paths that it touches. -/
def tchL (s : ByteArray) (par : Bool) : List ByteArray := s :: if par = true ∧ vpath s = true ∧ s.size ≠ 1 then [parentB s] else []
/-- The nodes of some paths. -/
def atL (M : List (Key × Nd)) (l : List ByteArray) : List Nd := l.flatMap fun p => (mget M p.data.toList).toList

theorem chgM_other {k : Int} {n : Nd} {M : List (Key × Nd)} (hM : MSorted M) {q : Key} (h : q ≠ keyN n) : mget (chgM k n M) q = mget M q := by
  unfold chgM
  split
  · unfold addM; split
    · exact mget_mput_other hM n h
    · rfl
  · split
    · unfold putM; split
      · exact mget_mput_other hM n h
      · rfl
    · split
      · unfold remM; split
        · exact mget_mdel_other hM h
        · rfl
      · rfl
theorem tchL_nodup (s : ByteArray) (par : Bool) : (tchL s par).Nodup := by
  unfold tchL
  split
  · rename_i h
    have := (path_split h.2.1 h.2.2).2.2.1
    simp only [List.nodup_cons, List.mem_singleton, List.not_mem_nil, not_false_eq_true, List.nodup_nil, and_true]
    intro e
    rw [← e] at this; omega
  · simp
theorem atL_mem {M : List (Key × Nd)} (hM : MOk M) {l : List ByteArray} {n : Nd} : n ∈ atL M l ↔ n.path ∈ l ∧ mget M (keyN n) = some n := by
  unfold atL
  rw [List.mem_flatMap]
  constructor
  · rintro ⟨p, hp, hn⟩
    have hg : mget M p.data.toList = some n := by simpa using hn
    have e : p = n.path := ba_ext (hM.at hg).1
    subst e
    exact ⟨hp, hg⟩
  · rintro ⟨h1, h2⟩
    exact ⟨n.path, h1, by show n ∈ (mget M (keyN n)).toList; rw [h2]; simp⟩
theorem atL_paths {M : List (Key × Nd)} (hM : MOk M) : ∀ l : List ByteArray, ((atL M l).map (·.path)).Sublist l
  | [] => List.Sublist.slnil
  | p :: l => by
    have ih := atL_paths hM l
    show (((mget M p.data.toList).toList ++ atL M l).map (·.path)).Sublist (p :: l)
    cases hg : mget M p.data.toList with
    | none => exact ih.cons _
    | some n =>
      have e : n.path = p := (ba_ext (hM.at hg).1).symm
      show ((n.path) :: (atL M l).map (·.path)).Sublist (p :: l)
      rw [e]
      exact ih.cons_cons _
theorem atL_dup {M : List (Key × Nd)} (hM : MOk M) {l : List ByteArray} (hl : l.Nodup) : dupB (atL M l) = false := by
  unfold dupB
  have := hl.sublist (atL_paths hM l)
  simpa using this
theorem atL_len (M : List (Key × Nd)) : ∀ l : List ByteArray, (atL M l).length ≤ l.length
  | [] => Nat.le_refl _
  | p :: l => by
    have ih := atL_len M l
    show ((mget M p.data.toList).toList ++ atL M l).length ≤ l.length + 1
    rw [List.length_append]
    cases mget M p.data.toList <;> simp <;> omega
theorem tchL_len (s : ByteArray) (par : Bool) : (tchL s par).length ≤ 2 := by
  unfold tchL; split <;> simp
theorem pair_atL {M : List (Key × Nd)} (hM : MOk M) {l : List ByteArray} (hl : l.Nodup) (p : ByteArray) (h : p ∈ l) : mget (pairM (atL M l)) p.data.toList = mget M p.data.toList := by
  cases hg : mget M p.data.toList with
  | some n =>
    have e : n.path = p := (ba_ext (hM.at hg).1).symm
    have hn : n ∈ atL M l := (atL_mem hM).2 ⟨by rw [e]; exact h, by unfold keyN; rw [e]; exact hg⟩
    have := pair_get (atL_dup hM hl) hn
    unfold keyN at this
    rw [e] at this
    exact this
  | none =>
    refine mget_none_of fun x hx e => ?_
    obtain ⟨h1, h2⟩ := pairM_mem _ x hx
    have h3 := ((atL_mem hM).1 h1).2
    rw [← h2, e, hg] at h3
    cases h3
theorem pair_atL_in {M : List (Key × Nd)} (hM : MOk M) {l : List ByteArray} {p : ByteArray} (h : (mget (pairM (atL M l)) p.data.toList).isSome = true) : p ∈ l := by
  obtain ⟨n, hn⟩ := Option.isSome_iff_exists.1 h
  obtain ⟨h1, h2⟩ := pairM_mem _ _ (mget_some_mem hn)
  have e : p = n.path := ba_ext h2
  rw [e]
  exact ((atL_mem hM).1 h1).1
/-- The change is told by what it touches. -/
theorem told_chg {k : Int} {n : Nd} {M : List (Key × Nd)} (hM : MOk M) (hM' : MOk (chgM k n M)) (par : Bool) : Told2 M (chgM k n M) (pairM (atL M (tchL n.path par))) (pairM (atL (chgM k n M) (tchL n.path par))) where
  p := fun q h => by
    obtain ⟨p, rfl⟩ : ∃ p : ByteArray, p.data.toList = q := ⟨⟨⟨q⟩⟩, rfl⟩
    have h1 := pair_atL_in hM h
    exact ⟨pair_atL hM (tchL_nodup _ _) p h1, pair_atL hM' (tchL_nodup _ _) p h1⟩
  i := fun q h => by
    obtain ⟨p, rfl⟩ : ∃ p : ByteArray, p.data.toList = q := ⟨⟨⟨q⟩⟩, rfl⟩
    have h1 := pair_atL_in hM' h
    exact ⟨pair_atL hM (tchL_nodup _ _) p h1, pair_atL hM' (tchL_nodup _ _) p h1⟩
  rest := fun q h1 h2 => by
    obtain ⟨p, rfl⟩ : ∃ p : ByteArray, p.data.toList = q := ⟨⟨⟨q⟩⟩, rfl⟩
    by_cases e : p.data.toList = keyN n
    · have hp : p ∈ tchL n.path par := by
        have : p = n.path := ba_ext e
        rw [this]; unfold tchL; exact List.mem_cons_self ..
      rw [← pair_atL hM (tchL_nodup _ _) p hp, ← pair_atL hM' (tchL_nodup _ _) p hp, h1, h2]
    · exact (chgM_other hM.sorted e).symm
theorem chg_ok {k : Int} {n : Nd} {M : List (Key × Nd)} (hM : MOk M) (hM' : MOk (chgM k n M)) (par : Bool) : turnOk (chgM k n M) (atL M (tchL n.path par)) (atL (chgM k n M) (tchL n.path par)) := by
  rw [ok_iff]
  refine ⟨atL_dup hM (tchL_nodup _ _), atL_dup hM' (tchL_nodup _ _), fun m hm => ?_, fun m hm => ?_⟩
  · exact ⟨m, ((atL_mem hM').1 hm).2, sameN_self m⟩
  · rintro ⟨h1, h2⟩
    obtain ⟨y, hy⟩ := Option.isSome_iff_exists.1 h1
    have e : y.path = m.path := (ba_ext (hM'.at hy).1).symm
    refine h2 y ((atL_mem hM').2 ⟨by rw [e]; exact ((atL_mem hM).1 hm).1, ?_⟩) e
    have : keyN y = keyN m := by unfold keyN; rw [e]
    rw [this]; exact hy
/-- The book behind it. -/
theorem book_chg {k : Int} {n : Nd} {M : List (Key × Nd)} (hM : MOk M) (hM' : MOk (chgM k n M)) (hl : M.length ≤ 4398046511104) (hl' : (chgM k n M).length ≤ 4398046511104) (par : Bool) {left : Lit → Bool} (hlf : ∀ k, left k = false) {V : Bk}
    (hV : JJ3 (pairM (atL M (tchL n.path par))) (pairM (atL (chgM k n M) (tchL n.path par))) (wvM (chgM k n M)) (useB M) left V) : V = useB (chgM k n M) :=
  book_after hM hM' hl hl' (pairM_sorted _) (pairM_sorted _) (told_chg hM hM' par) hlf hV
/-- Settle's three ranges over what is told. -/
theorem setJ_chg {k : Int} {n : Nd} {M : List (Key × Nd)} (hM : MOk M) (hM' : MOk (chgM k n M)) (hl : M.length ≤ 4398046511104) (par : Bool) :
    SetJ (pairM (atL M (tchL n.path par))) (pairM (atL (chgM k n M) (tchL n.path par))) (wvM (chgM k n M)) (useB M) (JJ1 (pairM (atL (chgM k n M) (tchL n.path par))) (useB M)) (JJ2 (pairM (atL M (tchL n.path par))) (pairM (atL (chgM k n M) (tchL n.path par))) (useB M)) (JJ3 (pairM (atL M (tchL n.path par))) (pairM (atL (chgM k n M) (tchL n.path par))) (wvM (chgM k n M)) (useB M)) := by
  have hk : ∀ {A : List (Key × Nd)}, MOk A → ∀ x ∈ pairM (atL A (tchL n.path par)), x.1 = keyN x.2 ∧ vpath x.2.path = true := fun {A} hA x hx => by
    obtain ⟨h1, h2⟩ := pairM_mem _ _ hx
    exact ⟨h2, right_vpath (hA.at ((atL_mem hA).1 h1).2).2⟩
  refine setJ_ok (pairM_sorted _) (pairM_sorted _) (useB_sorted hM) (hk hM) (hk hM') fun x hx => ?_
  unfold useB at hx
  obtain ⟨y, _, rfl⟩ := List.mem_map.1 hx
  obtain ⟨c1, c2⟩ := wv_small hM hl y.2.path
  dsimp only
  rw [wvM_wt hM]
  exact ⟨wrap_in (by omega), wrap_in (by omega)⟩
end Go.Proofs.YthinpbdbhijbgaaGreatDoor
namespace Go.Proofs.YthinpbdbhijbgaaGreatDoor
open Go.ChangeShapes Go.WideShapes Go.ChangeAt Go.RowKit Go.Deep
set_option maxHeartbeats 2000000
set_option maxRecDepth 100000

theorem Tryz.cells_change : Tryz.prog.cellsOf 68 = 19 := by kernel_rfl
theorem Tryz.bytes_change : Tryz.prog.bytesOf 68 = 184 := by kernel_rfl
theorem Tryz.cells_int : Tryz.prog.cellsOf 3 = 1 := by kernel_rfl

/-- A change: its kind, its node, its last flag. -/
structure Cg where
  k : Int
  n : Nd
  p : Bool
instance : Inhabited Cg := ⟨⟨0, zeroN, false⟩⟩
def chC (k : Int) (n : Nd) (p : Bool) (d a : Value) : Array Value :=
  #[.int .i64 k, .string n.path, d, a, .int .i64 n.owner, .int .i64 n.czxid, .int .i64 n.mzxid, .int .i64 n.pzxid, .int .i64 n.azxid, .int .i64 n.qzxid, .int .i64 n.ctime, .int .i64 n.mtime, .int .i32 n.version, .int .i32 n.creates, .int .i32 n.aversion, .bool n.has, .int .i64 n.count, .int .i64 n.bytes, .bool p]

/-- A slice that shows these changes. -/
def CgsAt (B : Nat) (w : World) (a : Option Addr) (L : List Cg) : Prop := ∀ i c, L[i]? = some c → ∃ b off da dc aa ac, a = some ⟨b, off, none⟩ ∧ b < B ∧ Cells B w da (c.n.data.map u8v) ∧ Cells B w aa (acCs c.n.acl) ∧
  ∀ r u, (chC c.k c.n c.p (.slice da c.n.data.length dc) (.slice aa c.n.acl.length ac))[r]? = some u → w.cell? ⟨b, off + i * 19 + r, none⟩ = some u

section
variable {H : Type} {enc : TypeId × Value → H} {w : World} {fuel : Nat}
theorem open_change {n : Nat} {cs : List Value} {y : DataW H × List MemPlace} (h : DataW.trod enc Tryz.prog w 0 (fun _ => true) true n 68 cs = some y) (hz : Light 68 y.1) :
    ∃ (c : Cg) (da aa : Option Addr) (dc ac : Nat), cs = (chC c.k c.n c.p (.slice da c.n.data.length dc) (.slice aa c.n.acl.length ac)).toList ∧ (Fit c.n ∧ Ir c.n) ∧ Cells w.heap.size w da (c.n.data.map u8v) ∧ Cells w.heap.size w aa (acCs c.n.acl) := by
  obtain ⟨y0, y1, y2, m, rfl, hl, h0, h1, h2⟩ := trod_struct3 Tryz.underlying68 h
  rw [Tryz.cells_change] at hl
  match cs, hl with
  | [c0, c1, c2, c3, c4, c5, c6, c7, c8, c9, c10, c11, c12, c13, c14, c15, c16, c17, c18], _ =>
    simp only [Tryz.cells_int, Tryz.cells_node, Tryz.cells_bool, List.drop_succ_cons, List.drop_zero, List.take_succ_cons, List.take_zero] at h0 h1 h2
    obtain ⟨k, e0, _, _⟩ := DataW.trod_int Tryz.underlying3 h0
    have e2 := DataW.trod_bool Tryz.underlying4 h2
    obtain ⟨p, e2, _⟩ := e2
    have q1 : Light 44 y1.1 := light_agg Tryz.underlying68 hz (j := 1) rfl rfl
    obtain ⟨nd, da, aa, dc, ac, he, hf, hD, hA⟩ := open_node h1 q1
    rw [he] at h1
    have hr := node_rng h1
    refine ⟨⟨k, nd, p⟩, da, aa, dc, ac, ?_, ⟨hf, hr⟩, hD, hA⟩
    have hcs : [c0, c1, c2, c3, c4, c5, c6, c7, c8, c9, c10, c11, c12, c13, c14, c15, c16, c17, c18] = [c0] ++ ([c1, c2, c3, c4, c5, c6, c7, c8, c9, c10, c11, c12, c13, c14, c15, c16, c17] ++ [c18]) := rfl
    rw [hcs, he, e0, e2]
    rfl

/-- A slice of changes, opened. -/
theorem open_changes {v : Value} {x : DataW H × List MemPlace} (h : DataW.trod enc Tryz.prog w 0 (fun _ => true) true fuel 62 [v] = some x) (hz : Light 62 x.1) :
    ∃ (l : List Cg) (a : Option Addr) (cap : Nat), v = .slice a l.length cap ∧ l.length * 184 ≤ 140737488355328 ∧ (∀ c ∈ l, Fit c.n ∧ Ir c.n) ∧ CgsAt w.heap.size w a l := by
  rcases open_slice Tryz.underlying62 h with ⟨hcs, rfl⟩ | ⟨a, len, cap, m, n, D, Pl, hcs, _, hl, hm, hmm, rfl, hx⟩
  · simp only [List.cons.injEq, and_true] at hcs
    subst hcs
    exact ⟨[], none, 0, rfl, by simp, by simp, fun i n h => (by simp at h)⟩
  · simp only [List.cons.injEq, and_true] at hcs
    subst hcs
    simp only [if_true] at hmm
    subst hmm
    have hw := light_len Tryz.underlying62 hz
    rw [Tryz.bytes_change] at hw
    simp only [List.length_map, List.length_range] at hw
    obtain ⟨X, hX⟩ := choose_lt (n := len) (p := fun i (c : Cg) => ∃ (da aa : Option Addr) (dc ac : Nat), (Cells w.heap.size w da (c.n.data.map u8v) ∧ Cells w.heap.size w aa (acCs c.n.acl)) ∧ (∀ r u, (chC c.k c.n c.p (.slice da c.n.data.length dc) (.slice aa c.n.acl.length ac))[r]? = some u → w.cell? ((a.add (i * 19)).add r) = some u) ∧ (Fit c.n ∧ Ir c.n)) fun i hi => by
      obtain ⟨cs', h1, h2⟩ := hx i (by omega)
      obtain ⟨c, da, aa, dc, ac, rfl, hf, hD, hA⟩ := open_change h2 (light_elem Tryz.underlying62 hz (List.mem_map.2 ⟨i, List.mem_range.2 hi, rfl⟩))
      rw [Tryz.cells_change] at h1
      obtain ⟨_, _, h3⟩ := World.cells?_some h1
      refine ⟨c, da, aa, dc, ac, ⟨hD, hA⟩, fun r u hr => ?_, hf⟩
      rw [h3 r (by have := (Array.getElem?_eq_some_iff.1 hr).1; simpa [chC] using this)]
      simpa using hr
    refine ⟨(List.range len).map X, some a, m, by simp, by simp; omega, fun x hx' => ?_, fun j n hj => ?_⟩
    · obtain ⟨i, hi, rfl⟩ := List.mem_map.1 hx'
      obtain ⟨_, _, _, _, _, _, h⟩ := hX i (List.mem_range.1 hi)
      exact h
    · simp only [List.getElem?_map] at hj
      by_cases hi : j < len
      · rw [List.getElem?_range hi] at hj
        simp only [Option.map_some, Option.some.injEq] at hj
        subst hj
        obtain ⟨da, aa, dc, ac, ⟨hD, hA⟩, hc, _⟩ := hX j hi
        obtain ⟨_, _, _, _, _, hc00, _⟩ := hX 0 (by omega)
        have hc0 := hc00 0 _ rfl
        have hsp := World.cell?_spot hc0
        have hlt := World.block_lt_of_cell? _ _ hc0
        obtain ⟨b, off, sp⟩ := a
        obtain rfl : sp = none := by simpa [Addr.add] using hsp
        refine ⟨b, off, da, dc, aa, ac, rfl, by simpa [Addr.add] using hlt, hD, hA, fun r u hr => ?_⟩
        have := hc r u hr
        rw [add_plain, add_plain] at this
        rw [← this]
      · rw [List.getElem?_eq_none (by simp; omega)] at hj
        simp at hj
end
end Go.Proofs.YthinpbdbhijbgaaGreatDoor
namespace Go.Proofs.YthinpbdbhijbgaaGreatDoor
open Go.RowKit Go.Sort
set_option maxHeartbeats 16000000
set_option maxRecDepth 100000

theorem ch_nd {k : Int} {n : Nd} {p : Bool} {d a : Value} {j : Nat} {u : Value} (h : (ndC n d a)[j]? = some u) : (chC k n p d a)[1 + j]? = some u := by
  have hj := (Array.getElem?_eq_some_iff.1 h).1
  have hj : j < 17 := hj
  rw [Nat.add_comm]
  match j, hj with
  | 0, _ | 1, _ | 2, _ | 3, _ | 4, _ | 5, _ | 6, _ | 7, _ | 8, _ | 9, _ | 10, _ | 11, _ | 12, _ | 13, _ | 14, _ | 15, _ | 16, _ => exact h
theorem well7_chg {K : Nat} {k : Int} {n : Nd} {M : List (Key × Nd)} (hM : MOk M) (h : Well7 K M) (hn : Ir n) : Well7 (K + 1) (chgM k n M) := by
  unfold chgM
  split
  · exact well7_op (o := ⟨1, n.path, n⟩) hM h hn
  · split
    · exact well7_op (o := ⟨2, n.path, n⟩) hM h hn
    · split
      · exact well7_op (o := ⟨3, n.path, n⟩) hM h hn
      · exact h.more (Nat.le_succ K)

theorem turn10_any (B : Nat) (S R : Nat → Prop) (w : World) (bt br K : Nat) (M : List (Key × Nd)) (h2 : Two7 B S R w bt br K M) (kk : Int) (n : Nd) (fl : Bool) (da aa : Option Addr) (dc ac : Nat) (hTB : Tabs w) (hB2 : 2 ≤ B) (hf : Fit n) (hir : Ir n) (hK : (K + 1) * 168 ≤ 140737488355328)
    (hD : Cells B w da (n.data.map u8v)) (hA : Cells B w aa (acCs n.acl)) :
    Calls Tryz.prog 37 #[.pointer (some ⟨bt, 0, none⟩), .pointer (some ⟨br, 0, none⟩), .agg (chC kk n fl (.slice da n.data.length dc) (.slice aa n.acl.length ac))] w fun e w' => e = .returned (.bool true) ∧ Aft7 B S R w w bt br (K + 1) (chgM kk n M) w' := by
  have hBw := h2.size
  have hlow : ∀ k, S k ∨ k = br → B ≤ k := fun k hk => hk.elim (fun h => h2.low k (.inl h)) fun e => by rw [e]; exact h2.own
  have hSw : ∀ k, S k ∨ R k ∨ k = br → k < w.heap.size := fun k hk => by
    rcases hk with hk | hk | hk
    · exact h2.tree.bound k hk
    · exact (h2.ref.bound k hk).1
    · rw [hk]; exact h2.ref.lt
  have hMK := h2.well.len
  have hM := h2.tree.ok
  have hps := hf.path
  obtain ⟨X, hX⟩ : ∃ X, X = w.alloc (.cells (chC kk n fl (.slice da n.data.length dc) (.slice aa n.acl.length ac)) 68) := ⟨_, rfl⟩
  have hE1 : Ext w X := by rw [hX]; exact Ext.alloc _ _
  have hz1 : X.heap.size = w.heap.size + 1 := by rw [hX]; simp
  have hn1 : X.heap[w.heap.size]? = some (.cells (chC kk n fl (.slice da n.data.length dc) (.slice aa n.acl.length ac)) 68 (0, 0)) := by rw [hX]; exact heap_alloc_new w _
  have hopN : ∀ W : World, W.heap[w.heap.size]? = some (.cells (chC kk n fl (.slice da n.data.length dc) (.slice aa n.acl.length ac)) 68 (0, 0)) → ∀ j u, (ndC n (.slice da n.data.length dc) (.slice aa n.acl.length ac))[j]? = some u → W.cell? ((⟨w.heap.size, 1, none⟩ : Addr).add j) = some u := fun W hW j u hj => by
    rw [addr_add, cell_of_row _ _ _ _ _ _ hW]; exact ch_nd hj
  have hk3 : X.cell? ⟨w.heap.size, 0, none⟩ = some (.int .i64 kk) := by rw [cell_of_row _ _ _ _ _ _ hn1]; rfl
  have HOPN := Lib.hid hopN
  have HLOW := Lib.hid hlow
  have HSW := Lib.hid hSw
  have HF := Lib.hid hf
  have HM := Lib.hid hM
  have HEW := Lib.hid hE1
  have HBX := Lib.hid hn1
  have HTX := Lib.hid (hTB.below (hE1.mono hBw) hB2)
  have H2X := Lib.hid (h2.ext hE1)
  have H20 := Lib.hid h2
  have HWO := Lib.hid (well7_chg (k := kk) hM h2.well hir)
  have hBX : B ≤ X.heap.size := by omega
  have hDB : ∀ W, Below B X W → Cells W.heap.size W da (n.data.map u8v) := fun W h => (hD.below ((hE1.mono hBw).trans h)).mono (by have := h.size; omega)
  have hAB : ∀ W, Below B X W → Cells W.heap.size W aa (acCs n.acl) := fun W h => (hA.below ((hE1.mono hBw).trans h)).mono (by have := h.size; omega)
  have HDB := Lib.hid hDB
  have HAB := Lib.hid hAB
  rw [hX] at hk3
  have HX := Lib.hid hX
  unfold chC at hk3 HX ⊢
  clear hopN hlow hSw hf hM hE1 hn1 hTB h2 hDB hAB hD hA hX hir
  go_enter Tryz.func37, Tryz.ntmps37
  by_cases hk1 : kk = 1
  · have f1 : (kk == 1) = true := by simpa using hk1
    have HMM := Lib.hid (show chgM kk n M = addM M n by unfold chgM; rw [if_pos hk1])
    clear hk1
    obtain ⟨er, her⟩ : ∃ er, er = addE M n := ⟨_, rfl⟩
    have HEE := Lib.hid her.symm
    clear her
    go_wp2_with fail
    rw [← HX.out]
    refine wp_region_P (by kernel_rfl) (region_gen 49 (fun d vals W => ToldV [some (.pointer (some ⟨bt, 0, none⟩)), some (.pointer (some ⟨w.heap.size, 1, none⟩)), some (.agg (ndC n (.slice da n.data.length dc) (.slice aa n.acl.length ac))), none, some (.int .i64 er), some (.int .i64 er), some (.pointer (some ⟨br, 0, none⟩)), some (.pointer (some ⟨w.heap.size, 1, none⟩)), some (.agg (ndC n (.slice da n.data.length dc) (.slice aa n.acl.length ac))), some (.int .i64 er), some (.bool true), some (.bool true)] d vals ∧ TnH 3 4 9 n B S R w X bt br K M (chgM kk n M) d vals W) ?g0 (by kernel_rfl) rfl ?duties ?rest)
    case g0 => exact fun vals => ⟨ToldV.none _ _, by unfold PG7; simp only [Bool.false_eq_true, if_false]; exact Ext.drew _, fun h => by cases h⟩
    case duties =>
      refine ⟨?_, ?_, ?_, ?_, ?_, ?_, ?_, ?_, ?_, ?_, ?_, ?_, trivial⟩
      · refine dutyG_val rfl rfl (fun d vals W W' hdi hcl h hE => TnH.read h hE (by decide) (by decide) (by decide)) fun d a W hdi hcl hH hx hF => ?_
        have x1 := hF.slot 0 _ (by decide) rfl
        exact wp_value (w' := W) (v := .pointer (some ⟨bt, 0, none⟩)) (by simp only [execOp, x1]; simp [go_sem]) ⟨rfl, Ext.refl _⟩
      · refine dutyG_val rfl rfl (fun d vals W W' hdi hcl h hE => TnH.read h hE (by decide) (by decide) (by decide)) fun d a W hdi hcl hH hx hF => ?_
        have x1 := hF.slot 5 _ (by decide) rfl
        exact wp_value (w' := W) (v := .pointer (some ⟨w.heap.size, 1, none⟩)) (by simp only [execOp, x1]; simp [go_sem]) ⟨rfl, Ext.refl _⟩
      · refine dutyG_val rfl rfl (fun d vals W W' hdi hcl h hE => TnH.read h hE (by decide) (by decide) (by decide)) fun d a W hdi hcl hH hx hF => ?_
        have hj2 : d 9 = false := by
          cases hq : d 9 with
          | false => rfl
          | true => have := hcl 4 9 2 (by kernel_rfl) hq; rw [hdi] at this; cases this
        have hb0 := ((hH.1.chg hj2).same _ (Array.getElem?_eq_some_iff.1 HBX.out).1 (fun hs => by have := HSW.out w.heap.size (.inl hs); omega)).trans HBX.out
        have x1 := hx 1 12 _ _ rfl rfl ⟨⟨1, .data⟩, by simp, rfl, rfl⟩ rfl
        exact wp_value (ex_load_at rfl _ x1 (ndC n (.slice da n.data.length dc) (.slice aa n.acl.length ac)) (HOPN.out W hb0) Tryz.underlying44 rfl sizeNd) ⟨rfl, Ext.refl _⟩
      · intro d a W hdi hcl hpre hG hF
        have hj2 : d 9 = false := by
          cases hq : d 9 with
          | false => rfl
          | true => have := hcl 4 9 3 (by kernel_rfl) hq; rw [hdi] at this; cases this
        have hj1 : d 4 = false := by
          cases hq : d 4 with
          | false => rfl
          | true => have := hcl 4 4 3 (by kernel_rfl) hq; rw [hdi] at this; cases this
        have hE : Ext X W := by
          have h := hG.2.1
          unfold PG7 at h
          rw [hj2, hj1] at h
          simpa using h
        have x1 : a.eval (.tmp 13) = .agg (ndC n (.slice da n.data.length dc) (.slice aa n.acl.length ac)) := (valsOf_eval 2 13 rfl rfl).trans (hG.1 2 _ rfl (hpre ⟨2, .data⟩ (by simp) rfl))
        have hBel := hE.mono hBX
        refine wp_enter (ex_call rfl (enters_f Tryz.func74 (by kernel_rfl) rfl)) (by simp only [List.map_toArray, List.map_cons, List.map_nil, x1]; exact rclone_new n da aa dc ac W HF.out (HDB.out W hBel) (HAB.out W hBel)) ?_
        rintro e W' ⟨v, rfl, ⟨va, vc, vb, vd, rfl, h1, h2⟩, hb⟩
        exact ⟨_, rfl, _, rfl, hG.1.put 3 _ (fun u hu => by cases hu), hG.2.clone hb (by decide) (by decide) ⟨va, vc, vb, vd, rfl, h1.cells fun _ hb => hb.2, h2.cells fun _ hb => hb.2⟩⟩
      · intro d a W hdi hcl hpre hG hF
        have hj2 : d 9 = false := by
          cases hq : d 9 with
          | false => rfl
          | true => have := hcl 4 9 4 (by kernel_rfl) hq; rw [hdi] at this; cases this
        have hE : Ext X W := by
          have h := hG.2.1
          unfold PG7 at h
          rw [hj2, hdi] at h
          simpa using h
        have x1 : a.eval (.tmp 11) = .pointer (some ⟨bt, 0, none⟩) := (valsOf_eval 0 11 rfl rfl).trans (hG.1 0 _ rfl (hpre ⟨0, .data⟩ (by simp) rfl))
        have hd3 := hpre ⟨3, .data⟩ (by simp) rfl
        obtain ⟨va, vc, vb, vd, hv, h1, h2⟩ := hG.2.2 hd3 hdi
        have x2 : a.eval (.tmp 14) = .agg (ndC n (.slice va n.data.length vc) (.slice vb n.acl.length vd)) := (valsOf_eval 3 14 rfl rfl).trans hv
        refine wp_enter (ex_call rfl (enters_f Tryz.func70 (by kernel_rfl) rfl)) (by simp only [List.map_toArray, List.map_cons, List.map_nil, x1, x2]; exact add_any S W bt M K ((H2X.out.ext hE).tree) n va vb vc vd (HTX.out.below (hE.mono hBX) hB2) HF.out (by omega) h1 h2) ?_
        intro e W' hT
        have he := hT.1
        subst he
        refine ⟨_, rfl, _, rfl, hG.1.put 4 _ (fun u hu => by rw [HEE.out]; simpa using hu), TnH.one hj2 (by decide) ?_⟩
        rw [HMM.out]
        exact H2X.out.mid hE hT (by omega)
      · refine dutyG_val rfl rfl (fun d vals W W' hdi hcl h hE => TnH.read h hE (by decide) (by decide) (by decide)) fun d a W hdi hcl hH hx hF => ?_
        have x1 := hx 4 15 _ _ rfl rfl ⟨⟨4, .data⟩, by simp, rfl, rfl⟩ rfl
        refine wp_enter (ex_call rfl (enters_f Tryz.func10 (by kernel_rfl) rfl)) (by simp only [List.map_toArray, List.map_cons, List.map_nil, x1]; exact no10_any er W) ?_
        rintro e W' ⟨rfl, rfl⟩
        exact ⟨_, rfl, rfl, Ext.refl _⟩
      · refine dutyG_val rfl rfl (fun d vals W W' hdi hcl h hE => TnH.read h hE (by decide) (by decide) (by decide)) fun d a W hdi hcl hH hx hF => ?_
        have x1 := hF.slot 1 _ (by decide) rfl
        exact wp_value (w' := W) (v := .pointer (some ⟨br, 0, none⟩)) (by simp only [execOp, x1]; simp [go_sem]) ⟨rfl, Ext.refl _⟩
      · refine dutyG_val rfl rfl (fun d vals W W' hdi hcl h hE => TnH.read h hE (by decide) (by decide) (by decide)) fun d a W hdi hcl hH hx hF => ?_
        have x1 := hF.slot 5 _ (by decide) rfl
        exact wp_value (w' := W) (v := .pointer (some ⟨w.heap.size, 1, none⟩)) (by simp only [execOp, x1]; simp [go_sem]) ⟨rfl, Ext.refl _⟩
      · refine dutyG_val rfl rfl (fun d vals W W' hdi hcl h hE => TnH.read h hE (by decide) (by decide) (by decide)) fun d a W hdi hcl hH hx hF => ?_
        have hj2 : d 9 = false := by
          cases hq : d 9 with
          | false => rfl
          | true => have := hcl 4 9 8 (by kernel_rfl) hq; rw [hdi] at this; cases this
        have hb0 := ((hH.1.chg hj2).same _ (Array.getElem?_eq_some_iff.1 HBX.out).1 (fun hs => by have := HSW.out w.heap.size (.inl hs); omega)).trans HBX.out
        have x1 := hx 7 18 _ _ rfl rfl ⟨⟨7, .data⟩, by simp, rfl, rfl⟩ rfl
        exact wp_value (ex_load_at rfl _ x1 (ndC n (.slice da n.data.length dc) (.slice aa n.acl.length ac)) (HOPN.out W hb0) Tryz.underlying44 rfl sizeNd) ⟨rfl, Ext.refl _⟩
      · intro d a W hdi hcl hpre hG hF
        have x1 : a.eval (.tmp 17) = .pointer (some ⟨br, 0, none⟩) := (valsOf_eval 6 17 rfl rfl).trans (hG.1 6 _ rfl (hpre ⟨6, .data⟩ (by simp) rfl))
        have x2 : a.eval (.tmp 19) = .agg (ndC n (.slice da n.data.length dc) (.slice aa n.acl.length ac)) := (valsOf_eval 8 19 rfl rfl).trans (hG.1 8 _ rfl (hpre ⟨8, .data⟩ (by simp) rfl))
        have hj1 : d 5 = true := hpre ⟨5, .chain⟩ (by simp) rfl
        have hj1 : d 4 = true := hcl 4 5 4 (by kernel_rfl) hj1
        have hG2 := hG.2.1
        unfold PG7 at hG2
        simp only [hj1, hdi, Bool.false_eq_true, if_false, if_true] at hG2
        obtain ⟨S', hm1, hm2, hm3, hm4⟩ := id hG2
        have hBel : Below B X W := hm4.below (fun k hk => HLOW.out k (.inl hk)) hBX
        refine wp_enter (ex_call rfl (enters_f Tryz.func78 (by kernel_rfl) rfl)) (by simp only [List.map_toArray, List.map_cons, List.map_nil, x1, x2]; exact radd_s R W br M hm2 HM.out n da aa dc ac (HTX.out.below hBel hB2) HF.out (by omega) (HDB.out W hBel) (HAB.out W hBel)) ?_
        intro e W' hT
        have he := hT.1
        subst he
        refine ⟨_, rfl, _, rfl, hG.1.put 9 _ (fun u hu => by rw [HEE.out]; simpa using hu), TnH.two hj1 (by decide) ?_⟩
        rw [← HMM.out] at hT
        exact Mid7.aft H2X.out HEW.out hG2 hT HWO.out
      · refine dutyG_val rfl rfl (fun d vals W W' hdi hcl h hE => TnH.read h hE (by decide) (by decide) (by decide)) fun d a W hdi hcl hH hx hF => ?_
        have x1 := hx 5 16 _ _ rfl rfl ⟨⟨5, .data⟩, by simp, rfl, rfl⟩ rfl
        have x2 := hx 9 20 _ _ rfl rfl ⟨⟨9, .data⟩, by simp, rfl, rfl⟩ rfl
        exact wp_value (w' := W) (v := .bool true) (by simp only [execOp, x1, x2]; simp [go_sem]) ⟨rfl, Ext.refl _⟩
      · refine dutyG_val rfl rfl (fun d vals W W' hdi hcl h hE => TnH.read h hE (by decide) (by decide) (by decide)) fun d a W hdi hcl hH hx hF => ?_
        have x1 := hx 10 21 _ _ rfl rfl ⟨⟨10, .data⟩, by simp, rfl, rfl⟩ rfl
        exact wp_value (w' := W) (ex_assign rfl) ⟨by rw [x1], Ext.refl _⟩
    case rest =>
      intro us d W hdn hl hG
      have h := hG.2.1
      unfold PG7 at h
      rw [if_pos (hdn 9 (by decide))] at h
      have hr := hG.1 11 _ rfl (hdn 11 (by decide))
      have HFIN := Lib.hid (h.1.base (by omega))
      clear h hG hdn
      have hl2 : us.length = 12 := by simpa using hl
      clear hl
      obtain ⟨u0, u1, u2, u3, u4, u5, u6, u7, u8, u9, u10, u11, hus⟩ := us12 us hl2
      subst hus
      have hr : u11 = .bool true := hr
      subst hr
      clear hl2
      simp only [filled, List.zip_cons_cons, List.zip_nil_left, List.foldl_cons, List.foldl_nil, Act.put, List.setIfInBounds_toArray, List.set_cons_succ, List.set_cons_zero, Exit.inBlock, Exit.then]
      rename_i hK
      refine hK _ _ ?_
      clear hK
      go_wp2
      go_ret
      exact ⟨rfl, HFIN.out⟩
  have f1 : (kk == 1) = false := by simpa using hk1
  by_cases hk2 : kk = 2
  · have f2 : (kk == 2) = true := by simpa using hk2
    have HMM := Lib.hid (show chgM kk n M = putM M n by unfold chgM; rw [if_neg hk1, if_pos hk2])
    clear hk1 hk2
    obtain ⟨er, her⟩ : ∃ er, er = putE M n := ⟨_, rfl⟩
    have HEE := Lib.hid her.symm
    clear her
    go_wp2_with fail
    rw [← HX.out]
    refine wp_region_P (by kernel_rfl) (region_gen 49 (fun d vals W => ToldV [some (.pointer (some ⟨bt, 0, none⟩)), some (.pointer (some ⟨w.heap.size, 1, none⟩)), some (.agg (ndC n (.slice da n.data.length dc) (.slice aa n.acl.length ac))), none, some (.int .i64 er), some (.int .i64 er), some (.pointer (some ⟨br, 0, none⟩)), some (.pointer (some ⟨w.heap.size, 1, none⟩)), some (.agg (ndC n (.slice da n.data.length dc) (.slice aa n.acl.length ac))), some (.int .i64 er), some (.bool true), some (.bool true)] d vals ∧ TnH 3 4 9 n B S R w X bt br K M (chgM kk n M) d vals W) ?g0 (by kernel_rfl) rfl ?duties ?rest)
    case g0 => exact fun vals => ⟨ToldV.none _ _, by unfold PG7; simp only [Bool.false_eq_true, if_false]; exact Ext.drew _, fun h => by cases h⟩
    case duties =>
      refine ⟨?_, ?_, ?_, ?_, ?_, ?_, ?_, ?_, ?_, ?_, ?_, ?_, trivial⟩
      · refine dutyG_val rfl rfl (fun d vals W W' hdi hcl h hE => TnH.read h hE (by decide) (by decide) (by decide)) fun d a W hdi hcl hH hx hF => ?_
        have x1 := hF.slot 0 _ (by decide) rfl
        exact wp_value (w' := W) (v := .pointer (some ⟨bt, 0, none⟩)) (by simp only [execOp, x1]; simp [go_sem]) ⟨rfl, Ext.refl _⟩
      · refine dutyG_val rfl rfl (fun d vals W W' hdi hcl h hE => TnH.read h hE (by decide) (by decide) (by decide)) fun d a W hdi hcl hH hx hF => ?_
        have x1 := hF.slot 5 _ (by decide) rfl
        exact wp_value (w' := W) (v := .pointer (some ⟨w.heap.size, 1, none⟩)) (by simp only [execOp, x1]; simp [go_sem]) ⟨rfl, Ext.refl _⟩
      · refine dutyG_val rfl rfl (fun d vals W W' hdi hcl h hE => TnH.read h hE (by decide) (by decide) (by decide)) fun d a W hdi hcl hH hx hF => ?_
        have hj2 : d 9 = false := by
          cases hq : d 9 with
          | false => rfl
          | true => have := hcl 4 9 2 (by kernel_rfl) hq; rw [hdi] at this; cases this
        have hb0 := ((hH.1.chg hj2).same _ (Array.getElem?_eq_some_iff.1 HBX.out).1 (fun hs => by have := HSW.out w.heap.size (.inl hs); omega)).trans HBX.out
        have x1 := hx 1 25 _ _ rfl rfl ⟨⟨1, .data⟩, by simp, rfl, rfl⟩ rfl
        exact wp_value (ex_load_at rfl _ x1 (ndC n (.slice da n.data.length dc) (.slice aa n.acl.length ac)) (HOPN.out W hb0) Tryz.underlying44 rfl sizeNd) ⟨rfl, Ext.refl _⟩
      · intro d a W hdi hcl hpre hG hF
        have hj2 : d 9 = false := by
          cases hq : d 9 with
          | false => rfl
          | true => have := hcl 4 9 3 (by kernel_rfl) hq; rw [hdi] at this; cases this
        have hj1 : d 4 = false := by
          cases hq : d 4 with
          | false => rfl
          | true => have := hcl 4 4 3 (by kernel_rfl) hq; rw [hdi] at this; cases this
        have hE : Ext X W := by
          have h := hG.2.1
          unfold PG7 at h
          rw [hj2, hj1] at h
          simpa using h
        have x1 : a.eval (.tmp 26) = .agg (ndC n (.slice da n.data.length dc) (.slice aa n.acl.length ac)) := (valsOf_eval 2 26 rfl rfl).trans (hG.1 2 _ rfl (hpre ⟨2, .data⟩ (by simp) rfl))
        have hBel := hE.mono hBX
        refine wp_enter (ex_call rfl (enters_f Tryz.func74 (by kernel_rfl) rfl)) (by simp only [List.map_toArray, List.map_cons, List.map_nil, x1]; exact rclone_new n da aa dc ac W HF.out (HDB.out W hBel) (HAB.out W hBel)) ?_
        rintro e W' ⟨v, rfl, ⟨va, vc, vb, vd, rfl, h1, h2⟩, hb⟩
        exact ⟨_, rfl, _, rfl, hG.1.put 3 _ (fun u hu => by cases hu), hG.2.clone hb (by decide) (by decide) ⟨va, vc, vb, vd, rfl, h1.cells fun _ hb => hb.2, h2.cells fun _ hb => hb.2⟩⟩
      · intro d a W hdi hcl hpre hG hF
        have hj2 : d 9 = false := by
          cases hq : d 9 with
          | false => rfl
          | true => have := hcl 4 9 4 (by kernel_rfl) hq; rw [hdi] at this; cases this
        have hE : Ext X W := by
          have h := hG.2.1
          unfold PG7 at h
          rw [hj2, hdi] at h
          simpa using h
        have x1 : a.eval (.tmp 24) = .pointer (some ⟨bt, 0, none⟩) := (valsOf_eval 0 24 rfl rfl).trans (hG.1 0 _ rfl (hpre ⟨0, .data⟩ (by simp) rfl))
        have hd3 := hpre ⟨3, .data⟩ (by simp) rfl
        obtain ⟨va, vc, vb, vd, hv, h1, h2⟩ := hG.2.2 hd3 hdi
        have x2 : a.eval (.tmp 27) = .agg (ndC n (.slice va n.data.length vc) (.slice vb n.acl.length vd)) := (valsOf_eval 3 27 rfl rfl).trans hv
        refine wp_enter (ex_call rfl (enters_f Tryz.func75 (by kernel_rfl) rfl)) (by simp only [List.map_toArray, List.map_cons, List.map_nil, x1, x2]; exact tput_any S W bt M K ((H2X.out.ext hE).tree) n va vb vc vd (HTX.out.below (hE.mono hBX) hB2) HF.out (by omega) h1 h2) ?_
        intro e W' hT
        have he := hT.1
        subst he
        refine ⟨_, rfl, _, rfl, hG.1.put 4 _ (fun u hu => by rw [HEE.out]; simpa using hu), TnH.one hj2 (by decide) ?_⟩
        rw [HMM.out]
        exact H2X.out.mid hE hT (by omega)
      · refine dutyG_val rfl rfl (fun d vals W W' hdi hcl h hE => TnH.read h hE (by decide) (by decide) (by decide)) fun d a W hdi hcl hH hx hF => ?_
        have x1 := hx 4 28 _ _ rfl rfl ⟨⟨4, .data⟩, by simp, rfl, rfl⟩ rfl
        refine wp_enter (ex_call rfl (enters_f Tryz.func10 (by kernel_rfl) rfl)) (by simp only [List.map_toArray, List.map_cons, List.map_nil, x1]; exact no10_any er W) ?_
        rintro e W' ⟨rfl, rfl⟩
        exact ⟨_, rfl, rfl, Ext.refl _⟩
      · refine dutyG_val rfl rfl (fun d vals W W' hdi hcl h hE => TnH.read h hE (by decide) (by decide) (by decide)) fun d a W hdi hcl hH hx hF => ?_
        have x1 := hF.slot 1 _ (by decide) rfl
        exact wp_value (w' := W) (v := .pointer (some ⟨br, 0, none⟩)) (by simp only [execOp, x1]; simp [go_sem]) ⟨rfl, Ext.refl _⟩
      · refine dutyG_val rfl rfl (fun d vals W W' hdi hcl h hE => TnH.read h hE (by decide) (by decide) (by decide)) fun d a W hdi hcl hH hx hF => ?_
        have x1 := hF.slot 5 _ (by decide) rfl
        exact wp_value (w' := W) (v := .pointer (some ⟨w.heap.size, 1, none⟩)) (by simp only [execOp, x1]; simp [go_sem]) ⟨rfl, Ext.refl _⟩
      · refine dutyG_val rfl rfl (fun d vals W W' hdi hcl h hE => TnH.read h hE (by decide) (by decide) (by decide)) fun d a W hdi hcl hH hx hF => ?_
        have hj2 : d 9 = false := by
          cases hq : d 9 with
          | false => rfl
          | true => have := hcl 4 9 8 (by kernel_rfl) hq; rw [hdi] at this; cases this
        have hb0 := ((hH.1.chg hj2).same _ (Array.getElem?_eq_some_iff.1 HBX.out).1 (fun hs => by have := HSW.out w.heap.size (.inl hs); omega)).trans HBX.out
        have x1 := hx 7 31 _ _ rfl rfl ⟨⟨7, .data⟩, by simp, rfl, rfl⟩ rfl
        exact wp_value (ex_load_at rfl _ x1 (ndC n (.slice da n.data.length dc) (.slice aa n.acl.length ac)) (HOPN.out W hb0) Tryz.underlying44 rfl sizeNd) ⟨rfl, Ext.refl _⟩
      · intro d a W hdi hcl hpre hG hF
        have x1 : a.eval (.tmp 30) = .pointer (some ⟨br, 0, none⟩) := (valsOf_eval 6 30 rfl rfl).trans (hG.1 6 _ rfl (hpre ⟨6, .data⟩ (by simp) rfl))
        have x2 : a.eval (.tmp 32) = .agg (ndC n (.slice da n.data.length dc) (.slice aa n.acl.length ac)) := (valsOf_eval 8 32 rfl rfl).trans (hG.1 8 _ rfl (hpre ⟨8, .data⟩ (by simp) rfl))
        have hj1 : d 5 = true := hpre ⟨5, .chain⟩ (by simp) rfl
        have hj1 : d 4 = true := hcl 4 5 4 (by kernel_rfl) hj1
        have hG2 := hG.2.1
        unfold PG7 at hG2
        simp only [hj1, hdi, Bool.false_eq_true, if_false, if_true] at hG2
        obtain ⟨S', hm1, hm2, hm3, hm4⟩ := id hG2
        have hBel : Below B X W := hm4.below (fun k hk => HLOW.out k (.inl hk)) hBX
        refine wp_enter (ex_call rfl (enters_f Tryz.func76 (by kernel_rfl) rfl)) (by simp only [List.map_toArray, List.map_cons, List.map_nil, x1, x2]; exact rput_s R W br M hm2 HM.out n da aa dc ac (HTX.out.below hBel hB2) HF.out (by omega) (HDB.out W hBel) (HAB.out W hBel)) ?_
        intro e W' hT
        have he := hT.1
        subst he
        refine ⟨_, rfl, _, rfl, hG.1.put 9 _ (fun u hu => by rw [HEE.out]; simpa using hu), TnH.two hj1 (by decide) ?_⟩
        rw [← HMM.out] at hT
        exact Mid7.aft H2X.out HEW.out hG2 hT HWO.out
      · refine dutyG_val rfl rfl (fun d vals W W' hdi hcl h hE => TnH.read h hE (by decide) (by decide) (by decide)) fun d a W hdi hcl hH hx hF => ?_
        have x1 := hx 5 29 _ _ rfl rfl ⟨⟨5, .data⟩, by simp, rfl, rfl⟩ rfl
        have x2 := hx 9 33 _ _ rfl rfl ⟨⟨9, .data⟩, by simp, rfl, rfl⟩ rfl
        exact wp_value (w' := W) (v := .bool true) (by simp only [execOp, x1, x2]; simp [go_sem]) ⟨rfl, Ext.refl _⟩
      · refine dutyG_val rfl rfl (fun d vals W W' hdi hcl h hE => TnH.read h hE (by decide) (by decide) (by decide)) fun d a W hdi hcl hH hx hF => ?_
        have x1 := hx 10 34 _ _ rfl rfl ⟨⟨10, .data⟩, by simp, rfl, rfl⟩ rfl
        exact wp_value (w' := W) (ex_assign rfl) ⟨by rw [x1], Ext.refl _⟩
    case rest =>
      intro us d W hdn hl hG
      have h := hG.2.1
      unfold PG7 at h
      rw [if_pos (hdn 9 (by decide))] at h
      have hr := hG.1 11 _ rfl (hdn 11 (by decide))
      have HFIN := Lib.hid (h.1.base (by omega))
      clear h hG hdn
      have hl2 : us.length = 12 := by simpa using hl
      clear hl
      obtain ⟨u0, u1, u2, u3, u4, u5, u6, u7, u8, u9, u10, u11, hus⟩ := us12 us hl2
      subst hus
      have hr : u11 = .bool true := hr
      subst hr
      clear hl2
      simp only [filled, List.zip_cons_cons, List.zip_nil_left, List.foldl_cons, List.foldl_nil, Act.put, List.setIfInBounds_toArray, List.set_cons_succ, List.set_cons_zero, Exit.inBlock, Exit.then]
      rename_i hK
      refine hK _ _ ?_
      clear hK
      go_wp2
      go_ret
      exact ⟨rfl, HFIN.out⟩
  have f2 : (kk == 2) = false := by simpa using hk2
  by_cases hk3 : kk = 3
  · have f3 : (kk == 3) = true := by simpa using hk3
    have HMM := Lib.hid (show chgM kk n M = remM M n.path by unfold chgM; rw [if_neg hk1, if_neg hk2, if_pos hk3])
    clear hk1 hk2 hk3
    obtain ⟨er, her⟩ : ∃ er, er = remE M n.path := ⟨_, rfl⟩
    have HEE := Lib.hid her.symm
    clear her
    go_wp2_with fail
    rw [← HX.out]
    refine wp_region_P (by kernel_rfl) (region_gen 49 (fun d vals W => ToldV [some (.pointer (some ⟨bt, 0, none⟩)), some (.pointer (some ⟨w.heap.size, 1, none⟩)), some (.pointer (some ⟨w.heap.size, 1, none⟩)), some (.string n.path), some (.int .i64 er), some (.int .i64 er), some (.pointer (some ⟨br, 0, none⟩)), some (.pointer (some ⟨w.heap.size, 1, none⟩)), some (.pointer (some ⟨w.heap.size, 1, none⟩)), some (.string n.path), some (.int .i64 er), some (.bool true), some (.bool true)] d vals ∧ TnH 99 4 10 n B S R w X bt br K M (chgM kk n M) d vals W) ?g0 (by kernel_rfl) rfl ?duties ?rest)
    case g0 => exact fun vals => ⟨ToldV.none _ _, by unfold PG7; simp only [Bool.false_eq_true, if_false]; exact Ext.drew _, fun h => by cases h⟩
    case duties =>
      refine ⟨?_, ?_, ?_, ?_, ?_, ?_, ?_, ?_, ?_, ?_, ?_, ?_, ?_, trivial⟩
      · refine dutyG_val rfl rfl (fun d vals W W' hdi hcl h hE => TnH.read h hE (by decide) (by decide) (by decide)) fun d a W hdi hcl hH hx hF => ?_
        have x1 := hF.slot 0 _ (by decide) rfl
        exact wp_value (w' := W) (v := .pointer (some ⟨bt, 0, none⟩)) (by simp only [execOp, x1]; simp [go_sem]) ⟨rfl, Ext.refl _⟩
      · refine dutyG_val rfl rfl (fun d vals W W' hdi hcl h hE => TnH.read h hE (by decide) (by decide) (by decide)) fun d a W hdi hcl hH hx hF => ?_
        have x1 := hF.slot 5 _ (by decide) rfl
        exact wp_value (w' := W) (v := .pointer (some ⟨w.heap.size, 1, none⟩)) (by simp only [execOp, x1]; simp [go_sem]) ⟨rfl, Ext.refl _⟩
      · refine dutyG_val rfl rfl (fun d vals W W' hdi hcl h hE => TnH.read h hE (by decide) (by decide) (by decide)) fun d a W hdi hcl hH hx hF => ?_
        have x1 := hx 1 38 _ _ rfl rfl ⟨⟨1, .data⟩, by simp, rfl, rfl⟩ rfl
        exact wp_value (w' := W) (v := .pointer (some ⟨w.heap.size, 1, none⟩)) (by simp only [execOp, x1]; simp [go_sem]) ⟨rfl, Ext.refl _⟩
      · refine dutyG_val rfl rfl (fun d vals W W' hdi hcl h hE => TnH.read h hE (by decide) (by decide) (by decide)) fun d a W hdi hcl hH hx hF => ?_
        have hj2 : d 10 = false := by
          cases hq : d 10 with
          | false => rfl
          | true => have := hcl 4 10 3 (by kernel_rfl) hq; rw [hdi] at this; cases this
        have hb0 := ((hH.1.chg hj2).same _ (Array.getElem?_eq_some_iff.1 HBX.out).1 (fun hs => by have := HSW.out w.heap.size (.inl hs); omega)).trans HBX.out
        have x1 := hx 2 39 _ _ rfl rfl ⟨⟨2, .data⟩, by simp, rfl, rfl⟩ rfl
        exact wp_value (ex_cell rfl _ _ x1 (show W.cell? ⟨w.heap.size, 1, none⟩ = some (.string n.path) by rw [cell_of_row _ _ _ _ _ _ hb0]; rfl) rfl Tryz.underlying9) ⟨rfl, Ext.refl _⟩
      · intro d a W hdi hcl hpre hG hF
        have hj2 : d 10 = false := by
          cases hq : d 10 with
          | false => rfl
          | true => have := hcl 4 10 4 (by kernel_rfl) hq; rw [hdi] at this; cases this
        have hE : Ext X W := by
          have h := hG.2.1
          unfold PG7 at h
          rw [hj2, hdi] at h
          simpa using h
        have x1 : a.eval (.tmp 37) = .pointer (some ⟨bt, 0, none⟩) := (valsOf_eval 0 37 rfl rfl).trans (hG.1 0 _ rfl (hpre ⟨0, .data⟩ (by simp) rfl))
        have x2 : a.eval (.tmp 40) = .string n.path := (valsOf_eval 3 40 rfl rfl).trans (hG.1 3 _ rfl (hpre ⟨3, .data⟩ (by simp) rfl))
        refine wp_enter (ex_call rfl (enters_f Tryz.func72 (by kernel_rfl) rfl)) (by simp only [List.map_toArray, List.map_cons, List.map_nil, x1, x2]; exact rem_any S W bt M K ((H2X.out.ext hE).tree) n.path hps (by omega)) ?_
        intro e W' hT
        have he := hT.1
        subst he
        refine ⟨_, rfl, _, rfl, hG.1.put 4 _ (fun u hu => by rw [HEE.out]; simpa using hu), TnH.one hj2 (by decide) ?_⟩
        rw [HMM.out]
        exact H2X.out.mid hE hT (by omega)
      · refine dutyG_val rfl rfl (fun d vals W W' hdi hcl h hE => TnH.read h hE (by decide) (by decide) (by decide)) fun d a W hdi hcl hH hx hF => ?_
        have x1 := hx 4 41 _ _ rfl rfl ⟨⟨4, .data⟩, by simp, rfl, rfl⟩ rfl
        refine wp_enter (ex_call rfl (enters_f Tryz.func10 (by kernel_rfl) rfl)) (by simp only [List.map_toArray, List.map_cons, List.map_nil, x1]; exact no10_any er W) ?_
        rintro e W' ⟨rfl, rfl⟩
        exact ⟨_, rfl, rfl, Ext.refl _⟩
      · refine dutyG_val rfl rfl (fun d vals W W' hdi hcl h hE => TnH.read h hE (by decide) (by decide) (by decide)) fun d a W hdi hcl hH hx hF => ?_
        have x1 := hF.slot 1 _ (by decide) rfl
        exact wp_value (w' := W) (v := .pointer (some ⟨br, 0, none⟩)) (by simp only [execOp, x1]; simp [go_sem]) ⟨rfl, Ext.refl _⟩
      · refine dutyG_val rfl rfl (fun d vals W W' hdi hcl h hE => TnH.read h hE (by decide) (by decide) (by decide)) fun d a W hdi hcl hH hx hF => ?_
        have x1 := hF.slot 5 _ (by decide) rfl
        exact wp_value (w' := W) (v := .pointer (some ⟨w.heap.size, 1, none⟩)) (by simp only [execOp, x1]; simp [go_sem]) ⟨rfl, Ext.refl _⟩
      · refine dutyG_val rfl rfl (fun d vals W W' hdi hcl h hE => TnH.read h hE (by decide) (by decide) (by decide)) fun d a W hdi hcl hH hx hF => ?_
        have x1 := hx 7 44 _ _ rfl rfl ⟨⟨7, .data⟩, by simp, rfl, rfl⟩ rfl
        exact wp_value (w' := W) (v := .pointer (some ⟨w.heap.size, 1, none⟩)) (by simp only [execOp, x1]; simp [go_sem]) ⟨rfl, Ext.refl _⟩
      · refine dutyG_val rfl rfl (fun d vals W W' hdi hcl h hE => TnH.read h hE (by decide) (by decide) (by decide)) fun d a W hdi hcl hH hx hF => ?_
        have hj2 : d 10 = false := by
          cases hq : d 10 with
          | false => rfl
          | true => have := hcl 4 10 9 (by kernel_rfl) hq; rw [hdi] at this; cases this
        have hb0 := ((hH.1.chg hj2).same _ (Array.getElem?_eq_some_iff.1 HBX.out).1 (fun hs => by have := HSW.out w.heap.size (.inl hs); omega)).trans HBX.out
        have x1 := hx 8 45 _ _ rfl rfl ⟨⟨8, .data⟩, by simp, rfl, rfl⟩ rfl
        exact wp_value (ex_cell rfl _ _ x1 (show W.cell? ⟨w.heap.size, 1, none⟩ = some (.string n.path) by rw [cell_of_row _ _ _ _ _ _ hb0]; rfl) rfl Tryz.underlying9) ⟨rfl, Ext.refl _⟩
      · intro d a W hdi hcl hpre hG hF
        have x1 : a.eval (.tmp 43) = .pointer (some ⟨br, 0, none⟩) := (valsOf_eval 6 43 rfl rfl).trans (hG.1 6 _ rfl (hpre ⟨6, .data⟩ (by simp) rfl))
        have x2 : a.eval (.tmp 46) = .string n.path := (valsOf_eval 9 46 rfl rfl).trans (hG.1 9 _ rfl (hpre ⟨9, .data⟩ (by simp) rfl))
        have hj1 : d 5 = true := hpre ⟨5, .chain⟩ (by simp) rfl
        have hj1 : d 4 = true := hcl 4 5 4 (by kernel_rfl) hj1
        have hG2 := hG.2.1
        unfold PG7 at hG2
        simp only [hj1, hdi, Bool.false_eq_true, if_false, if_true] at hG2
        obtain ⟨S', hm1, hm2, hm3, hm4⟩ := id hG2
        have hBel : Below B X W := hm4.below (fun k hk => HLOW.out k (.inl hk)) hBX
        refine wp_enter (ex_call rfl (enters_f Tryz.func77 (by kernel_rfl) rfl)) (by simp only [List.map_toArray, List.map_cons, List.map_nil, x1, x2]; exact rrem_s R W br M hm2 HM.out n.path hps (by omega)) ?_
        intro e W' hT
        have he := hT.1
        subst he
        refine ⟨_, rfl, _, rfl, hG.1.put 10 _ (fun u hu => by rw [HEE.out]; simpa using hu), TnH.two hj1 (by decide) ?_⟩
        rw [← HMM.out] at hT
        exact Mid7.aft H2X.out HEW.out hG2 hT HWO.out
      · refine dutyG_val rfl rfl (fun d vals W W' hdi hcl h hE => TnH.read h hE (by decide) (by decide) (by decide)) fun d a W hdi hcl hH hx hF => ?_
        have x1 := hx 5 42 _ _ rfl rfl ⟨⟨5, .data⟩, by simp, rfl, rfl⟩ rfl
        have x2 := hx 10 47 _ _ rfl rfl ⟨⟨10, .data⟩, by simp, rfl, rfl⟩ rfl
        exact wp_value (w' := W) (v := .bool true) (by simp only [execOp, x1, x2]; simp [go_sem]) ⟨rfl, Ext.refl _⟩
      · refine dutyG_val rfl rfl (fun d vals W W' hdi hcl h hE => TnH.read h hE (by decide) (by decide) (by decide)) fun d a W hdi hcl hH hx hF => ?_
        have x1 := hx 11 48 _ _ rfl rfl ⟨⟨11, .data⟩, by simp, rfl, rfl⟩ rfl
        exact wp_value (w' := W) (ex_assign rfl) ⟨by rw [x1], Ext.refl _⟩
    case rest =>
      intro us d W hdn hl hG
      have h := hG.2.1
      unfold PG7 at h
      rw [if_pos (hdn 10 (by decide))] at h
      have hr := hG.1 12 _ rfl (hdn 12 (by decide))
      have HFIN := Lib.hid (h.1.base (by omega))
      clear h hG hdn
      have hl2 : us.length = 13 := by simpa using hl
      clear hl
      obtain ⟨u0, u1, u2, u3, u4, u5, u6, u7, u8, u9, u10, u11, u12, hus⟩ := us13 us hl2
      subst hus
      have hr : u12 = .bool true := hr
      subst hr
      clear hl2
      simp only [filled, List.zip_cons_cons, List.zip_nil_left, List.foldl_cons, List.foldl_nil, Act.put, List.setIfInBounds_toArray, List.set_cons_succ, List.set_cons_zero, Exit.inBlock, Exit.then]
      rename_i hK
      refine hK _ _ ?_
      clear hK
      go_wp2
      go_ret
      exact ⟨rfl, HFIN.out⟩
  have f3 : (kk == 3) = false := by simpa using hk3
  have hMM : chgM kk n M = M := by unfold chgM; rw [if_neg hk1, if_neg hk2, if_neg hk3]
  have HFIN := Lib.hid (show Aft7 B S R w w bt br (K + 1) (chgM kk n M) X by
    rw [hMM]
    exact ⟨S, R, H2X.out.more (Nat.le_succ K), fun k hk => hk.elim .inl fun h => .inr (.inl h), Chg.of_ext HEW.out⟩)
  clear hMM hk1 hk2 hk3
  rw [HX.out] at HFIN
  have HFIN := Lib.hid HFIN.out
  go_wp2
  go_ret
  exact ⟨rfl, HFIN.out⟩
end Go.Proofs.YthinpbdbhijbgaaGreatDoor
