/- The list that grows while its places are gone through: in the end it holds what is under the first. The list under a path, sorted. The walk of paths.Join. Joining a node's path and a child's last part gives the child's path. The walk of (*Tree).under. The walk of the law's Below: a range over the nodes under a path. The walks of a nil tree's methods. The walks of arborref07's Get and After. The plain sums of TreeSums. The walk of (*Tree).Weigh. -/
import Derived.Test.YthinpbdbhijbgaaGreatDoorJQuotaBooks9
import Derived.Test.YthinpbdbhijbgaaGreatDoorJQuotaBooks6
import Derived.Test.YthinpbdbhijbgaaGreatDoorJQuotaBooks4
import Derived.Test.YthinpbdbhijbgaaGreatDoorJQuotaBooks5
import Derived.Lib.IndexLaws
import Derived.Sort.OwnSorted
import Derived.Great.BuildSlice
import Derived.Test.YthinpbdbhijbgaaGreatDoorJQuotaBooks7
import Derived.Test.YthinpbdbhijbgaaGreatDoorJQuotaBooks8
namespace Go.Proofs.YthinpbdbhijbgaaGreatDoor
open Go.RowKit
set_option maxHeartbeats 1000000

theorem nodup_at {l : List ByteArray} (h : l.Nodup) {i j : Nat} (hi : i < l.length) (hj : j < l.length) (e : l[i] = l[j]) : i = j := by
  have hp := List.pairwise_iff_getElem.1 h
  rcases Nat.lt_trichotomy i j with hij | hij | hij
  · exact absurd e (hp i j hi hj hij)
  · exact hij
  · exact absurd e.symm (hp j i hj hi hij)
theorem nodup_len : ∀ (l m : List ByteArray), l.Nodup → l ⊆ m → l.length ≤ m.length
  | [], m, _, _ => Nat.zero_le _
  | a :: l, m, h, hs => by
    obtain ⟨h1, h2⟩ := List.nodup_cons.1 h
    obtain ⟨u, v, e⟩ := List.append_of_mem (hs (List.mem_cons_self ..))
    have := nodup_len l (u ++ v) h2 fun b hb => by
      have hb' := hs (List.mem_cons_of_mem _ hb)
      rw [e] at hb'
      rcases List.mem_append.1 hb' with hb' | hb'
      · exact List.mem_append_left _ hb'
      · rcases List.mem_cons.1 hb' with hb' | hb'
        · subst hb'; exact absurd hb h1
        · exact List.mem_append_right _ hb'
    rw [e]
    simp only [List.length_append, List.length_cons] at this ⊢
    omega

/-- l's places ahead of i are done, of place i those children that are not left. -/
structure Bfs (M : List (Key × Nd)) (s : ByteArray) (l : List ByteArray) (i : Nat) (left : Key → Bool) : Prop where
  head : s ∈ l
  nodup : l.Nodup
  mem : ∀ p ∈ l, ∃ x ∈ M, x.2.path = p ∧ und p s = true
  done : ∀ j p, j < i → l[j]? = some p → ∀ x ∈ M, childOf p x.2 = true → x.2.path ∈ l
  part : ∀ p, l[i]? = some p → ∀ x ∈ M, childOf p x.2 = true → left (nameK x.2) = false → x.2.path ∈ l
  back : ∀ p ∈ l, p = s ∨ ∃ j q, l[j]? = some q ∧ p.size ≠ 1 ∧ parentB p = q ∧ (j < i ∨ (j = i ∧ left (nameB p).data.toList = false))

theorem Bfs.start {M : List (Key × Nd)} {x : Key × Nd} (hx : x ∈ M) : Bfs M x.2.path [x.2.path] 0 (fun _ => true) :=
  ⟨by simp, by simp, fun p hp => by
    have : p = x.2.path := by simpa using hp
    exact ⟨x, hx, this.symm, by rw [this]; exact und_self _⟩, fun j p hj => by omega, fun p _ y _ _ h => by simp at h, fun p hp => .inl (by simpa using hp)⟩

theorem Bfs.round {M : List (Key × Nd)} {s : ByteArray} {l : List ByteArray} {i : Nat} {left : Key → Bool} (h : Bfs M s l i left) {p : ByteArray} (hp : l[i]? = some p) (hl : ∀ y ∈ kidsOf M p, left y.1 = false) : Bfs M s l (i + 1) (fun _ => true) :=
  ⟨h.head, h.nodup, h.mem, fun j q hj hq x hx hc => by
    by_cases hji : j = i
    · subst hji
      have e : p = q := Option.some.inj (hp.symm.trans hq)
      subst e
      exact h.part p hp x hx hc (hl _ (mem_kids.2 ⟨x, hx, hc, rfl⟩))
    · exact h.done j q (by omega) hq x hx hc, fun p _ y _ _ hh => by simp at hh, fun q hq => by
    rcases h.back q hq with e | ⟨j, r, h1, h2, h3, h4⟩
    · exact .inl e
    · exact .inr ⟨j, r, h1, h2, h3, .inl (by rcases h4 with h4 | h4 <;> omega)⟩⟩

theorem Bfs.step {M : List (Key × Nd)} (hM : MOk M) (hc : Clo M) {s : ByteArray} {l : List ByteArray} {i : Nat} {left : Key → Bool} (h : Bfs M s l i left) {p : ByteArray} (hp : l[i]? = some p) {x : Key × Nd} (hx : x ∈ M) (hch : childOf p x.2 = true) (hleft : left (nameK x.2) = true) :
    Bfs M s (l ++ [x.2.path]) i (fun k => left k && !(k == nameK x.2)) := by
  obtain ⟨c1, c2⟩ := childOf_iff.1 hch
  obtain ⟨y, hy, ey, hu⟩ := h.mem p (List.mem_of_getElem? hp)
  have hsz := (path_split (right_vpath (hM.right x hx)) c1).2.2.1
  have hnew : x.2.path ∉ l := by
    intro hm
    rcases h.back _ hm with e | ⟨j, q, h1, h2, h3, h4⟩
    · have := und_le hM hc hy (by rw [ey]; exact hu)
      rw [← e, ey, ← c2] at this
      omega
    · rw [c2] at h3
      subst h3
      have hj : j = i := by
        obtain ⟨a1, a2⟩ := List.getElem?_eq_some_iff.1 h1
        obtain ⟨b1, b2⟩ := List.getElem?_eq_some_iff.1 hp
        exact nodup_at h.nodup a1 b1 (a2.trans b2.symm)
      rcases h4 with h4 | ⟨_, h4⟩
      · omega
      · rw [show (nameB x.2.path).data.toList = nameK x.2 from rfl, hleft] at h4; cases h4
  obtain ⟨hi, ei⟩ := List.getElem?_eq_some_iff.1 hp
  have old : ∀ j q, (l ++ [x.2.path])[j]? = some q → j ≤ i → l[j]? = some q := fun j q hq hji => by
    rwa [List.getElem?_append_left (by omega)] at hq
  refine ⟨by simp [h.head], ?_, fun q hq => ?_, fun j q hj hq z hz hcz => ?_, fun q hq z hz hcz hlz => ?_, fun q hq => ?_⟩
  · rw [List.nodup_append]
    refine ⟨h.nodup, by simp, fun a ha b hb => ?_⟩
    have : b = x.2.path := by simpa using hb
    subst this
    exact fun e => hnew (e ▸ ha)
  · rcases List.mem_append.1 hq with hq | hq
    · exact h.mem q hq
    · have : q = x.2.path := by simpa using hq
      subst this
      exact ⟨x, hx, rfl, und_child hM hc hx hy (by rw [ey]; exact hch) s (by rw [ey]; exact hu)⟩
  · exact List.mem_append_left _ (h.done j q hj (old j q hq (by omega)) z hz hcz)
  · have hq' := old i q hq (Nat.le_refl _)
    have e : p = q := Option.some.inj (hp.symm.trans hq')
    subst e
    by_cases hn : nameK z.2 = nameK x.2
    · obtain ⟨d1, d2⟩ := childOf_iff.1 hcz
      have : z.2.path = x.2.path := by
        have a1 := (path_split (right_vpath (hM.right z hz)) d1).1
        have a2 := (path_split (right_vpath (hM.right x hx)) c1).1
        apply ba_ext
        rw [a1, a2, d2, c2]
        unfold nameK at hn
        rw [hn]
      rw [this]; simp
    · refine List.mem_append_left _ (h.part p hq' z hz hcz ?_)
      simpa [hn] using hlz
  · rcases List.mem_append.1 hq with hq | hq
    · rcases h.back q hq with e | ⟨j, r, h1, h2, h3, h4⟩
      · exact .inl e
      · refine .inr ⟨j, r, ?_, h2, h3, ?_⟩
        · rw [List.getElem?_append_left (List.getElem?_eq_some_iff.1 h1).1]; exact h1
        · rcases h4 with h4 | ⟨h4, h5⟩
          · exact .inl h4
          · exact .inr ⟨h4, by rw [h5]; rfl⟩
    · have : q = x.2.path := by simpa using hq
      subst this
      refine .inr ⟨i, p, ?_, c1, c2, .inr ⟨rfl, ?_⟩⟩
      · rw [List.getElem?_append_left hi]; exact hp
      · rw [show (nameB x.2.path).data.toList = nameK x.2 from rfl]
        simp

/-- In the end: just what is under s. -/
theorem Bfs.all {M : List (Key × Nd)} (hM : MOk M) (hc : Clo M) {s : ByteArray} {l : List ByteArray} {left : Key → Bool} (h : Bfs M s l l.length left) (p : ByteArray) : p ∈ l ↔ ∃ x ∈ M, x.2.path = p ∧ und p s = true := by
  constructor
  · exact h.mem p
  · rintro ⟨x, hx, rfl, hu⟩
    refine und_closed hM hc s l h.head (fun z hz h1 hpz => ?_) _ x hx (Nat.le_refl _) hu
    obtain ⟨j, hj, ej⟩ := List.getElem_of_mem hpz
    exact h.done j _ hj (by rw [List.getElem?_eq_getElem hj, ej]) z hz (childOf_iff.2 ⟨h1, rfl⟩)

/-- How long it gets. -/
theorem Bfs.length_le {M : List (Key × Nd)} {s : ByteArray} {l : List ByteArray} {i : Nat} {left : Key → Bool} (h : Bfs M s l i left) : l.length ≤ M.length := by
  have hsub : l ⊆ M.map (fun x => x.2.path) := fun p hp => by
    obtain ⟨x, hx, e, _⟩ := h.mem p hp
    exact List.mem_map.2 ⟨x, hx, e⟩
  have := nodup_len l _ h.nodup hsub
  simpa using this
end Go.Proofs.YthinpbdbhijbgaaGreatDoor
namespace Go.Proofs.YthinpbdbhijbgaaGreatDoor
open Go.RowKit
set_option maxHeartbeats 1000000

theorem perm_nodup : ∀ (l m : List Key), l.Nodup → m.Nodup → (∀ x, x ∈ l ↔ x ∈ m) → l.Perm m
  | [], m, _, _, h => by
    cases m with
    | nil => exact .refl _
    | cons b m => exact absurd ((h b).2 (List.mem_cons_self ..)) (by simp)
  | a :: l, m, hl, hm, h => by
    obtain ⟨u, v, rfl⟩ := List.append_of_mem ((h a).1 (List.mem_cons_self ..))
    obtain ⟨h1, h2⟩ := List.nodup_cons.1 hl
    have hm' : (a :: (u ++ v)).Nodup := (List.perm_middle.nodup_iff).1 hm
    obtain ⟨k1, k2⟩ := List.nodup_cons.1 hm'
    refine ((perm_nodup l (u ++ v) h2 k2 fun x => ?_).cons a).trans List.perm_middle.symm
    constructor
    · intro hx
      have := (h x).1 (List.mem_cons_of_mem _ hx)
      have hne : x ≠ a := fun e => h1 (e ▸ hx)
      simp only [List.mem_append, List.mem_cons] at this ⊢
      rcases this with h | h | h
      · exact .inl h
      · exact absurd h hne
      · exact .inr h
    · intro hx
      have hne : x ≠ a := fun e => k1 (e ▸ hx)
      have : x ∈ u ++ a :: v := by
        simp only [List.mem_append, List.mem_cons] at hx ⊢
        rcases hx with h | h
        · exact .inl h
        · exact .inr (.inr h)
      rcases List.mem_cons.1 ((h x).2 this) with h | h
      · exact absurd h hne
      · exact h

/-- The keys under s, in order. -/
def undK (M : List (Key × Nd)) (s : ByteArray) : List Key := (M.filter fun x => und x.2.path s).map (·.1)

theorem undK_sorted {M : List (Key × Nd)} (hM : MOk M) (s : ByteArray) : (undK M s).Pairwise fun a b => bytesBefore a b = true := by
  unfold undK
  rw [List.pairwise_map, List.pairwise_filter]
  exact List.Pairwise.imp (fun h _ _ => h) hM.sorted

theorem Bfs.sorted {M : List (Key × Nd)} (hM : MOk M) (hc : Clo M) {s : ByteArray} {l : List ByteArray} {left : Key → Bool} (h : Bfs M s l l.length left) :
    (l.map fun p => p.data.toList).mergeSort (fun x y => decide (x ≤ y)) = undK M s := by
  refine sortedKeys (undK_sorted hM s) (perm_nodup _ _ ?_ ?_ fun k => ?_)
  · unfold List.Nodup
    rw [List.pairwise_map]
    exact List.Pairwise.imp (fun h e => h (ba_ext e)) h.nodup
  · refine List.Pairwise.imp (fun {a b} hab e => ?_) (undK_sorted hM s)
    rw [e] at hab
    exact before_asymm hab hab
  · unfold undK
    simp only [List.mem_map, List.mem_filter]
    constructor
    · rintro ⟨p, hp, rfl⟩
      obtain ⟨x, hx, e, hu⟩ := (h.all hM hc p).1 hp
      exact ⟨x, ⟨hx, by rw [e]; exact hu⟩, by rw [hM.key x hx]; unfold keyN; rw [e]⟩
    · rintro ⟨x, ⟨hx, hu⟩, rfl⟩
      exact ⟨x.2.path, (h.all hM hc _).2 ⟨x, hx, rfl, hu⟩, (hM.key x hx).symm⟩
end Go.Proofs.YthinpbdbhijbgaaGreatDoor
namespace Go.Proofs.YthinpbdbhijbgaaGreatDoor
open Go.RowKit
set_option maxHeartbeats 1000000
set_option maxRecDepth 100000

/-- What Join joins. -/
def joinP (a n : ByteArray) : ByteArray := ByteArray.mk (Lib.trimSuffix a.data.toList [47]).toArray ++ ByteArray.mk #[47] ++ n
def hasSl (n : ByteArray) : Bool := decide (0 ≤ Lib.indexByte n.data.toList 47)
def joinV (a n : ByteArray) : Value := if vpath a = true ∧ hasSl n = false ∧ vpath (joinP a n) = true ∧ n.size ≠ 0 then .tuple #[.string (joinP a n), .int .i64 0] else .tuple #[.string ⟨#[]⟩, .int .i64 30]

theorem join_any (a n : ByteArray) (w : World) (ha : a.size ≤ 140737488355328) (hn : n.size ≤ 140737488355328) : Calls Tryz.prog 193 #[.string a, .string n] w fun e w' => e = .returned (joinV a n) ∧ Below w.heap.size w w' := by
  have q1 : a.size ≤ 140737488355328 := ha
  have q2 : n.size ≤ 140737488355328 := hn
  have hT : (ByteArray.mk (Lib.trimSuffix a.data.toList [47]).toArray).size ≤ 140737488355328 := by
    refine Nat.le_trans ?_ q1
    rw [← size_list, ← size_list]
    unfold Lib.trimSuffix
    split <;> simp
  have hj : (joinP a n).size ≤ 9223372036854775800 := by
    unfold joinP
    rw [ByteArray.size_append, ByteArray.size_append]
    have : (ByteArray.mk #[47]).size = 1 := rfl
    omega
  have C1 : ∀ w, Calls Tryz.prog 242 #[.string a, .string ⟨#[47]⟩] w fun e w' => e = .returned (.string ⟨(Lib.trimSuffix a.data.toList [47]).toArray⟩) ∧ w' = w := fun w => Tryz.strings_TrimSuffix a ⟨#[47]⟩ w (by omega)
  have C2 : ∀ w, Calls Tryz.prog 131 #[.string a] w fun e w' => e = .returned (.bool (vpath a)) ∧ Below w.heap.size w w' := fun w => valid_any a w (by omega)
  have C3 : ∀ w, Calls Tryz.prog 243 #[.string n, .string ⟨#[47]⟩] w fun e w' => e = .returned (.bool (hasSl n)) ∧ w' = w := fun w => Tryz.strings_Contains_one n 47 w
  have C4 : ∀ w, Calls Tryz.prog 131 #[.string (joinP a n)] w fun e w' => e = .returned (.bool (vpath (joinP a n))) ∧ Below w.heap.size w w' := fun w => valid_any (joinP a n) w (by omega)
  have R : Hid (joinV a n = if vpath a = true ∧ hasSl n = false ∧ vpath (joinP a n) = true ∧ n.size ≠ 0 then .tuple #[.string (joinP a n), .int .i64 0] else .tuple #[.string ⟨#[]⟩, .int .i64 30]) := Lib.hid rfl
  have J : Hid (joinP a n = ByteArray.mk (Lib.trimSuffix a.data.toList [47]).toArray ++ ByteArray.mk #[47] ++ n) := Lib.hid rfl
  generalize joinV a n = V at R
  generalize joinP a n = q at C4 R J hj
  generalize ByteArray.mk (Lib.trimSuffix a.data.toList [47]).toArray = T at C1 J hT
  generalize vpath a = b1 at C2 R
  generalize hasSl n = b2 at C3 R
  generalize vpath q = b3 at C4 R
  have C1 := Lib.hid C1
  have C2 := Lib.hid C2
  have C3 := Lib.hid C3
  have C4 := Lib.hid C4
  have g1 : ¬ (9223372036854775807 : Int) < (T.size : Int) + 1 := by omega
  have g2 : ¬ (9223372036854775807 : Int) < (T.size : Int) + 1 + (n.size : Int) := by omega
  clear q1 q2 ha hn hj hT
  cases b1 with
  | false =>
    go_enter Tryz.func193, Tryz.ntmps193
    go_wp2_with fail
    refine (C1.out _).mono ?_
    rintro e w1 ⟨rfl, rfl⟩
    go_wp2_with fail
    refine (C2.out _).mono ?_
    rintro e w1 ⟨rfl, hb1⟩
    clear C1 C2 C3 C4
    go_wp2
    go_ret2
    exact ⟨by rw [R.out]; rfl, hb1⟩
  | true =>
  cases b2 with
  | true =>
    go_enter Tryz.func193, Tryz.ntmps193
    go_wp2_with fail
    refine (C1.out _).mono ?_
    rintro e w1 ⟨rfl, rfl⟩
    go_wp2_with fail
    refine (C2.out _).mono ?_
    rintro e w1 ⟨rfl, hb1⟩
    go_wp2_with fail
    refine (C3.out _).mono ?_
    rintro e w2 ⟨rfl, rfl⟩
    clear C1 C2 C3 C4
    go_wp2
    go_ret2
    exact ⟨by rw [R.out]; rfl, hb1⟩
  | false =>
  cases b3 with
  | false =>
    go_enter Tryz.func193, Tryz.ntmps193
    go_wp2_with fail
    refine (C1.out _).mono ?_
    rintro e w1 ⟨rfl, rfl⟩
    go_wp2_with fail
    refine (C2.out _).mono ?_
    rintro e w1 ⟨rfl, hb1⟩
    go_wp2_with fail
    refine (C3.out _).mono ?_
    rintro e w2 ⟨rfl, rfl⟩
    go_wp2_with fail
    rw [← J.out]
    refine (C4.out _).mono ?_
    rintro e w3 ⟨rfl, hb3⟩
    clear C1 C2 C3 C4
    go_wp2
    go_ret2
    exact ⟨by rw [R.out]; rfl, hb1.trans (hb3.mono hb1.size)⟩
  | true =>
  by_cases h0 : n.size = 0
  · have e1 : n.toList = [] := by rw [ByteArray.toList_eq]; exact List.eq_nil_of_length_eq_zero (by rw [← size_list] at h0; exact h0)
    go_enter Tryz.func193, Tryz.ntmps193
    go_wp2_with fail
    refine (C1.out _).mono ?_
    rintro e w1 ⟨rfl, rfl⟩
    go_wp2_with fail
    refine (C2.out _).mono ?_
    rintro e w1 ⟨rfl, hb1⟩
    go_wp2_with fail
    refine (C3.out _).mono ?_
    rintro e w2 ⟨rfl, rfl⟩
    go_wp2_with fail
    rw [← J.out]
    refine (C4.out _).mono ?_
    rintro e w3 ⟨rfl, hb3⟩
    clear C1 C2 C3 C4
    go_wp2
    go_ret2
    exact ⟨by rw [R.out, if_neg (by simp [h0])]; rfl, hb1.trans (hb3.mono hb1.size)⟩
  · have e0 : ¬ n.toList = [] := by rw [ByteArray.toList_eq]; exact fun e => h0 (by rw [← size_list, e]; rfl)
    have e1 : (n.toList == []) = false := by simpa using e0
    have H0 := Lib.hid h0
    clear h0
    go_enter Tryz.func193, Tryz.ntmps193
    go_wp2_with fail
    refine (C1.out _).mono ?_
    rintro e w1 ⟨rfl, rfl⟩
    go_wp2_with fail
    refine (C2.out _).mono ?_
    rintro e w1 ⟨rfl, hb1⟩
    go_wp2_with fail
    refine (C3.out _).mono ?_
    rintro e w2 ⟨rfl, rfl⟩
    go_wp2_with fail
    rw [← J.out]
    refine (C4.out _).mono ?_
    rintro e w3 ⟨rfl, hb3⟩
    clear C1 C2 C3 C4
    go_wp2
    go_ret2
    exact ⟨by rw [R.out, if_pos (by simp [H0.out])]; rfl, hb1.trans (hb3.mono hb1.size)⟩
end Go.Proofs.YthinpbdbhijbgaaGreatDoor
namespace Go.Proofs.YthinpbdbhijbgaaGreatDoor
open Go.RowKit
set_option maxHeartbeats 1000000

theorem no_slash {n : ByteArray} (h : ¬ (47 : UInt8) ∈ n.data.toList) : hasSl n = false := by
  unfold hasSl
  have hge := Lib.indexByte_ge n.data.toList 47
  rcases Int.lt_or_le (Lib.indexByte n.data.toList 47) 0 with h0 | h0
  · simp; omega
  · obtain ⟨o, ho⟩ := Int.eq_ofNat_of_zero_le h0
    exact absurd (List.mem_of_getElem? (Lib.indexByte_some ho).1) h

theorem joinP_pre {a : ByteArray} (h : vpath a = true) (n : ByteArray) : (joinP a n).data.toList = preL a ++ n.data.toList := by
  have e : (joinP a n).data.toList = Lib.trimSuffix a.data.toList [47] ++ [47] ++ n.data.toList := by
    unfold joinP
    simp [ByteArray.data_append]
  rw [e]
  congr 1
  by_cases h1 : a.size = 1
  · have hr := (root_iff h).1 h1
    unfold preL
    rw [if_pos h1, hr]
    rfl
  · unfold preL
    rw [if_neg h1]
    congr 1
    unfold Lib.trimSuffix
    rw [if_neg]
    intro hs
    unfold Lib.hasSuffix at hs
    obtain ⟨t, ht⟩ := List.isSuffixOf_iff_suffix.1 hs
    obtain ⟨f1, _, _, f4⟩ := vpath_facts h
    rcases f4 with f4 | f4
    · exact h1 f4
    · apply f4.1
      rw [← bat_toList a (a.size - 1) (by omega)]
      have hl : t.length + 1 = a.size := by rw [← size_list, ← ht]; simp
      have : a.size - 1 = t.length := by omega
      simp only [this, ← ht]
      simp

theorem join_child {M : List (Key × Nd)} (hM : MOk M) {x y : Key × Nd} (hx : x ∈ M) (hy : y ∈ M) (h : childOf y.2.path x.2 = true) {n : ByteArray} (hn : n.data.toList = nameK x.2) :
    joinP y.2.path n = x.2.path ∧ joinV y.2.path n = .tuple #[.string x.2.path, .int .i64 0] := by
  obtain ⟨c1, c2⟩ := childOf_iff.1 h
  obtain ⟨p1, p2, _, p4⟩ := path_split (right_vpath (hM.right x hx)) c1
  have en : n = nameB x.2.path := ba_ext hn
  subst en
  have e : joinP y.2.path (nameB x.2.path) = x.2.path := by
    apply ba_ext
    rw [joinP_pre (right_vpath (hM.right y hy)), p1, c2]
  refine ⟨e, ?_⟩
  unfold joinV
  rw [e, if_pos ⟨right_vpath (hM.right y hy), no_slash p4, right_vpath (hM.right x hx), p2⟩]
end Go.Proofs.YthinpbdbhijbgaaGreatDoor
namespace Go.Proofs.YthinpbdbhijbgaaGreatDoor
open Go.RowKit Go.Sort
set_option maxHeartbeats 2000000
set_option maxRecDepth 100000

/-- An operation that leaves memory. -/
theorem dutyS_same {P : Program} {ops : Array Oper} {Q : Exit → Act → World → Prop} {a0 : Act} {i : Nat} {o : Oper} {G : (Nat → Bool) → World → Prop} {Φ : Nat → Value → Prop} (hG : ∀ d d' w, G d w → (∀ k, k ≠ i → d' k = d k) → G d' w)
    (h : ∀ d a w, G d w → Framed ops a0 a → Ahead ops (fun i v _ => Φ i v) o a w → ∃ v, (execOp a.eval o).run P w = .ok (.value v) w ∧ Φ i v) : DutyS P ops Q G Φ a0 i o := by
  intro d a w _ _ _ hGw hF hA
  obtain ⟨v, hr, hv⟩ := h d a w hGw hF hA
  refine wp_value hr ⟨v, rfl, hv, hG d _ _ hGw fun k hk => ?_⟩
  have : (k == i) = false := by simpa using hk
  rw [this, Bool.or_false]

theorem ext_grown {a b : World} (h : Ext a b) (row : Option Nat) : a.grownBy b row := ⟨h.os, h.tape, h.output, h.size, fun k hk _ => h.block k hk⟩
theorem ownBlock_at {w : World} {base e size n : Nat} {v : Value} {xs : List Value} (h : w.ownsRow base e size v n xs) (k : Nat) (hk : v.ownBlock = some k) : ∃ c, w.heap[k]? = some (.cells c e (0, 0)) := by
  rcases h.2 with ⟨rfl, _⟩ | ⟨g, cap, cur, rfl, _, hg, _⟩
  · simp [Value.ownBlock] at hk
  · simp [Value.ownBlock] at hk
    subst hk
    exact ⟨_, hg⟩

/-- A range over a map that may be nil: which names are left. -/
def RngAt (W : World) (r : Nat) (mb : Option Nat) (L : List (Key × Value)) (left : Key → Bool) : Prop :=
  match mb with
  | some b => ∃ (lf : Lit → Bool) (cnt : Nat), (∀ k, lf (.string k) = left k) ∧ W.ranges Tryz.prog 9 Rv b r L.length (kvD L) lf cnt
  | none => L = [] ∧ (∀ k, left k = false) ∧ W.heap[r]? = some (.mapIter none 0 #[] 0)
def rngLeft (mb : Option Nat) (r : Nat) (W : World) : Nat := match mb with | some b => W.rangeLeft b r | none => 0

theorem RngAt.iter {W : World} {r : Nat} {mb : Option Nat} {L : List (Key × Value)} {left : Key → Bool} (h : RngAt W r mb L left) : ∃ m s c d, W.heap[r]? = some (.mapIter m s c d) := by
  cases mb with
  | some b =>
    obtain ⟨lf, cnt, _, es, clock, since, seen, c0, _, _, _, _, hr, _⟩ := h
    exact ⟨_, _, _, _, hr⟩
  | none => exact ⟨_, _, _, _, h.2.2⟩
theorem RngAt.kept {W W' : World} {r : Nat} {mb : Option Nat} {L : List (Key × Value)} {left : Key → Bool} {row : Option Nat} (h : RngAt W r mb L left) (hg : W.grownBy W' row) (hb : ∀ b, mb = some b → some b ≠ row) (hr : some r ≠ row) : RngAt W' r mb L left ∧ rngLeft mb r W' = rngLeft mb r W := by
  cases mb with
  | some b =>
    obtain ⟨lf, cnt, h1, h2⟩ := h
    have h3 := h2.kept hg (hb b rfl) hr
    exact ⟨⟨lf, cnt, h1, h3⟩, by show W'.rangeLeft b r = W.rangeLeft b r; rw [h3.left_eq, h2.left_eq]⟩
  | none =>
    obtain ⟨h1, h2, h3⟩ := h
    exact ⟨⟨h1, h2, (hg.block r (Array.getElem?_eq_some_iff.1 h3).1 hr).trans h3⟩, rfl⟩

section
variable {ops : Array Oper} {rest : List Oper} {o : Oper} {a : Act} {Q : Exit → Act → World → Prop}
theorem run_next_none {P : Program} (w : World) (ty : TypeId) (r s c : Nat) (d : Array Nat) (h : w.heap[r]? = some (.mapIter none s d c)) : (Instr.next (.pointer (some ⟨r, 0, none⟩)) false ty).run P w = .ok (.tuple #[.bool false]) w := by
  simp only [Instr.next, getObj, Sem.run_bind, Sem.run, h, Result.andThen]
  rfl
theorem wpList_next_any (w : World) (hg : o.guard = none) (it : Operand) (hop : o.op = Op.next it false) (mb : Option Nat) (r : Nat) (L : List (Key × Value)) (left : Key → Bool)
    (hit : a.eval it = .pointer (some ⟨r, 0, none⟩)) (h : RngAt w r mb L left)
    (hDone : (∀ k, left k = false) → wpList Tryz.prog ops Q rest (a.put o.dst (.tuple #[.bool false])) w)
    (hMore : ∀ (s : ByteArray) (v : Value) (w' : World), s.size ≤ maxLen → left s.data.toList = true → mget L s.data.toList = some v → RngAt w' r mb L (fun k => left k && !(k == s.data.toList)) → rngLeft mb r w' < rngLeft mb r w →
      w.grownBy w' (some r) → w'.heap.size = w.heap.size → (Instr.entry (.pointer (some ⟨r, 0, none⟩))).run Tryz.prog w' = .ok (.tuple #[.string s, v]) w' → wpList Tryz.prog ops Q rest (a.put o.dst (.tuple #[.bool true, .string s, v])) w') :
    wpList Tryz.prog ops Q (o :: rest) a w := by
  cases mb with
  | some b =>
    obtain ⟨lf, cnt, h1, h2⟩ := h
    refine wpList_next_left w hg it hop 9 strT b r L.length L lf cnt hit h2 (fun hl => hDone fun k => by rw [← h1]; exact hl _) fun s v w' cnt' hs hls hm hrg hlt hgr hsz hen => ?_
    refine hMore s v w' hs (by rw [← h1]; exact hls) hm ⟨_, cnt', fun k => ?_, hrg⟩ ?_ hgr hsz hen
    · show (lf (.string k) && !(k == s.data.toList)) = _
      rw [h1]
    · show w'.rangeLeft b r < w.rangeLeft b r
      rw [hrg.left_eq, h2.left_eq]; exact hlt
  | none =>
    obtain ⟨h1, h2, h3⟩ := h
    refine wpList_plain hg fun K' hK' => ?_
    unfold Oper.wp
    simp [execOp, hop, hit, run_next_none w o.type r 0 0 #[] h3, Result.andThen]
    exact hK' _ _ (hDone h2)
end

/-- What the region that ranges leaves. -/
def UnG (Wr : World) (mb : Option Nat) (L : List (Key × Value)) (d : Nat → Bool) (W : World) : Prop :=
  if d 9 = true then RngAt W Wr.heap.size mb L (fun k => (mget L k).isSome) ∧ Wr.grownBy W none ∧ W.heap.size = Wr.heap.size + 1 else Ext Wr W ∧ W.heap.size = Wr.heap.size
theorem UnG.same {Wr : World} {mb : Option Nat} {L : List (Key × Value)} {i : Nat} (hi : i ≠ 9) (d d' : Nat → Bool) (w : World) (h : UnG Wr mb L d w) (hd : ∀ k, k ≠ i → d' k = d k) : UnG Wr mb L d' w := by
  unfold UnG at h ⊢
  rw [hd 9 (Ne.symm hi)]
  exact h

theorem Bfs.enter {M : List (Key × Nd)} {s : ByteArray} {l : List ByteArray} {i : Nat} {p : ByteArray} (h : Bfs M s l i (fun _ => true)) (hp : l[i]? = some p) : Bfs M s l i (fun k => (mget (kidsOf M p) k).isSome) := by
  refine ⟨h.head, h.nodup, h.mem, h.done, fun q hq x hx hc hl => ?_, fun q hq => ?_⟩
  · exfalso
    have e : p = q := Option.some.inj (hp.symm.trans hq)
    subst e
    have hm : (nameK x.2, Value.agg #[]) ∈ kidsOf M p := mem_kids.2 ⟨x, hx, hc, rfl⟩
    cases hg : mget (kidsOf M p) (nameK x.2) with
    | none => exact mget_none hg _ hm rfl
    | some v => rw [hg] at hl; cases hl
  · rcases h.back q hq with e | ⟨j, r, h1, h2, h3, h4⟩
    · exact .inl e
    · refine .inr ⟨j, r, h1, h2, h3, .inl ?_⟩
      rcases h4 with h4 | ⟨_, h4⟩
      · exact h4
      · cases h4

theorem strInfo : ∃ i, Tryz.prog.info? 9 = some i ∧ i.zero = some (.string ⟨#[]⟩) ∧ i.size = 1 ∧ i.bytes = 16 := info_parts infoStr

def UndL (M : List (Key × Nd)) (s : ByteArray) : List Key := if (mget M s.data.toList).isSome = true then undK M s else []

set_option maxHeartbeats 8000000 in
theorem under_any (S : Nat → Prop) (w : World) (bt : Nat) (M : List (Key × Nd)) (N : Nat) (hT : TreeAt S w bt M N) (hc : Clo M) (s : ByteArray) (hs : s.size ≤ maxLen) (hN : M.length * 16 ≤ 140737488355328) :
    Calls Tryz.prog 149 #[.pointer (some ⟨bt, 0, none⟩), .string s] w (SortedOut (UndL M s) w) := by
  have C1 := tget_any S w bt M N hT s hs
  have HT := Lib.hid hT
  clear hT
  go_enter Tryz.func149, Tryz.ntmps149
  go_wp2_with fail
  refine C1.mono ?_
  rintro e w1 ⟨v, rfl, hv, hE1⟩
  obtain ⟨da, dc, aa, ac, rfl, hD, hA⟩ := hv
  generalize (mget M s.data.toList).getD zeroN = n at *
  clear hD hA
  obtain ⟨W2, hW2⟩ : ∃ W2, W2 = w1.alloc (.cells (ndC n (.slice da n.data.length dc) (.slice aa n.acl.length ac)) 44) := ⟨_, rfl⟩
  have HSET := Lib.hid ((setRow_alloc w1 zeroNd (ndC n (.slice da n.data.length dc) (.slice aa n.acl.length ac)) 44).trans hW2.symm)
  have HNew := Lib.hid (heap_alloc_new w1 (.cells zeroNd 44))
  have hE2 : Ext w1 W2 := by rw [hW2]; exact Ext.alloc _ _
  have hEw2 := hE1.trans hE2
  unfold ndC at HSET ⊢
  unfold zeroNd at HSET HNew
  have HEW := Lib.hid hEw2
  clear C1 hW2 hE1 hE2 hEw2
  cases hg : mget M s.data.toList with
  | none =>
    have hfin : SortedOut (UndL M s) w (.returned (.slice none 0 0)) W2 := by
      have e : UndL M s = [] := by unfold UndL; rw [hg]; rfl
      rw [e]
      exact ⟨_, rfl, World.ownsRow_nil _ _ _ _, by simp, HEW.out⟩
    have HFIN := Lib.hid hfin
    clear hfin hg
    go_wp2_with (refine wpList_store_row rfl 44 (.tmp 5) (.tmp 16) rfl w1.heap.size _ rfl rfl 44 _ HNew.out sizeNd rfl (cells_node n da aa _ _ dc ac) ?_; rw [HSET.out])
    go_ret
    exact HFIN.out
  | some y =>
    have hM := HT.out.ok
    have hys := hM.at hg
    have hmem := mget_some_mem hg
    have hyp : y.path = s := (ba_ext hys.1).symm
    have hu : UndL M s = undK M s := by unfold UndL; rw [hg]; rfl
    have hrow0 : (W2.alloc (.cells #[.string s] 9)).ownsRow W2.heap.size 9 1 (.slice (some ⟨W2.heap.size, 0, none⟩) 1 1) 1 [.string s] := World.ownsRow_lit W2 #[.string s] 1 (Nat.le_refl _) (by unfold maxLen; decide) rfl
    have hB0 : Bfs M s [s] 0 (fun _ => true) := by have := Bfs.start hmem; simpa [hyp] using this
    have hEA : Ext w (W2.alloc (.cells #[.string s] 9)) := HEW.out.trans (Ext.alloc _ _)
    have HB0 := Lib.hid hB0
    have HR0 := Lib.hid hrow0
    have HEA := Lib.hid hEA
    have HG := Lib.hid hg
    have HU := Lib.hid hu
    have hzw := HEW.out.size
    have HM := Lib.hid hM
    have HC := Lib.hid hc
    clear hg hu hrow0 hB0 hEA hmem hys hyp hM hc
    go_wp2_with (refine wpList_store_row rfl 44 (.tmp 5) (.tmp 16) rfl w1.heap.size _ rfl rfl 44 _ HNew.out sizeNd rfl (cells_node n da aa _ _ dc ac) ?_; rw [HSET.out])
    go_loopw [7, 8] (fun lv i wr => ∃ (k : Nat) (l : List ByteArray), i = .int .i64 k ∧ k ≤ l.length ∧ Bfs M s l k (fun _ => true) ∧ wr.ownsRow W2.heap.size 9 1 lv l.length (l.map Value.string) ∧ Ext w wr) (fun _ i _ => M.length - (intOf i).toNat)
    case atStart => exact ⟨0, [s], rfl, Nat.zero_le _, HB0.out, HR0.out, HEA.out⟩
    case round =>
      obtain ⟨k, l, rfl, hkl, hB, hrow, hE⟩ := hrel
      obtain ⟨wo, hwo⟩ : ∃ x, x = wr := ⟨_, rfl⟩
      subst hwo
      have hlM := hB.length_le
      have hl64 : l.length ≤ 9223372036854775807 := by omega
      by_cases hlt : k < l.length
      · have hne : u7 ≠ .slice none 0 0 := fun e => by
          subst e
          rcases hrow.2 with ⟨_, h⟩ | ⟨_, _, _, h, _⟩
          · omega
          · cases h
        obtain ⟨g, cap, hlv, hgb, hgc⟩ : ∃ g cap, u7 = .slice (some ⟨g, 0, none⟩) l.length cap ∧ W2.heap.size ≤ g ∧ wo.cell? ⟨g, k, none⟩ = some (.string l[k]) := by
          rcases hrow.2 with ⟨h, _⟩ | ⟨g, cap, cur, h, hb, _⟩
          · exact absurd h hne
          · refine ⟨g, cap, h, hb, ?_⟩
            have := hrow.cells (g := g) (by rw [h]; rfl) k (.string l[k]) (by rw [List.getElem?_map, List.getElem?_eq_getElem hlt]; rfl)
            rw [addr_add, Nat.zero_add] at this
            exact this
        subst hlv
        have hp : l[k]? = some l[k] := List.getElem?_eq_getElem hlt
        generalize l[k] = p at hgc hp
        obtain ⟨y2, hy2, eyp, _⟩ := hB.mem p (List.mem_of_getElem? hp)
        have hpv := (vpath_facts (right_vpath (HM.out.right y2 hy2))).2.1
        rw [eyp] at hpv
        have hps : p.size ≤ maxLen := by unfold maxLen; omega
        have hTr := HT.out.ext hE
        obtain ⟨bn, bk, mb, hmS, hlook⟩ := hTr.kids_look p hps
        have hG0 : UnG wo mb (kidsOf M p) (fun _ => false) wo.drew := by
          unfold UnG
          simp only [Bool.false_eq_true, if_false]
          exact ⟨Ext.drew _, rfl⟩
        have hsame : ∀ (d : Nat → Bool) (W : World), UnG wo mb (kidsOf M p) d W → Ext wo W := fun d W h => by
          unfold UnG at h
          split at h
          · exact ⟨h.2.1.os, h.2.1.tape, h.2.1.output, h.2.1.size, fun k hk => h.2.1.block k hk (by simp)⟩
          · exact h.1
        have hcell : ∀ (d : Nat → Bool) (W : World), UnG wo mb (kidsOf M p) d W → (∀ k, S k → W.heap[k]? = wo.heap[k]?) ∧ W.cell? ⟨g, k, none⟩ = some (.string p) := fun d W h =>
          ⟨fun k hk => (hsame d W h).block k (hTr.bound k hk), ((hsame d W h).cell (p := ⟨g, k, none⟩) (World.block_lt_of_cell? _ _ hgc)).trans hgc⟩
        have HL := Lib.hid hlook
        have HG0 := Lib.hid hG0
        have HCE := Lib.hid hcell
        have HROW := Lib.hid hrow
        have HBf := Lib.hid hB
        have HE := Lib.hid hE
        have HP := Lib.hid hp
        have HMS := Lib.hid hmS
        have HY2 := Lib.hid (And.intro hy2 eyp)
        clear hlook hG0 hcell hrow hB hE hp hsame hTr hmS hgc hy2 eyp hpv
        have hkL : k < l.length := hlt
        go_wp2
        refine wp_region_P (by kernel_rfl) (region_state_vals 58 (UnG wo mb (kidsOf M p)) HG0.out [.pointer (some ⟨bt, 0, none⟩), .pointer (some ⟨bt, 0, none⟩), .pointer (some ⟨bt, 1, none⟩), .map (some bk), .slice (some ⟨g, 0, none⟩) l.length cap, .int .i64 k, .pointer (some ⟨g, k, none⟩), .string p, .map mb, .pointer (some ⟨wo.heap.size, 0, none⟩)] rfl (by decide) rfl ?duties ?rest)
        case duties =>
          refine ⟨?_, ?_, ?_, ?_, ?_, ?_, ?_, ?_, ?_, ?_, trivial⟩
          · refine dutyS_same (UnG.same (by decide)) fun d a w' hG hF hA => ?_
            have x1 := hF.slot 0 _ (by decide) rfl
            exact ⟨.pointer (some ⟨bt, 0, none⟩), by simp only [execOp, x1]; simp [go_sem], rfl⟩
          · refine dutyS_same (UnG.same (by decide)) fun d a w' hG hF hA => ?_
            have x1 := hA.val 0 28 rfl rfl ⟨⟨0, .data⟩, by simp, rfl, rfl⟩ rfl
            exact ⟨_, ex_nilCheck rfl _ x1, rfl⟩
          · refine dutyS_same (UnG.same (by decide)) fun d a w' hG hF hA => ?_
            have x1 := hA.val 1 29 rfl rfl ⟨⟨1, .data⟩, by simp, rfl, rfl⟩ rfl
            exact ⟨.pointer (some ⟨bt, 1, none⟩), by simp only [execOp, x1]; simp [go_sem], rfl⟩
          · refine dutyS_same (UnG.same (by decide)) fun d a w' hG hF hA => ?_
            have x1 := hA.val 2 30 rfl rfl ⟨⟨2, .data⟩, by simp, rfl, rfl⟩ rfl
            exact ⟨_, ex_cell rfl _ _ x1 ((HL.out w' (HCE.out d w' hG).1).1 1) rfl Tryz.underlying121, rfl⟩
          · refine dutyS_same (UnG.same (by decide)) fun d a w' hG hF hA => ?_
            have x1 := hF.slot 7 _ (by decide) rfl
            exact ⟨.slice (some ⟨g, 0, none⟩) l.length cap, by simp only [execOp, x1]; simp [go_sem], rfl⟩
          · refine dutyS_same (UnG.same (by decide)) fun d a w' hG hF hA => ?_
            have x1 := hF.slot 8 _ (by decide) rfl
            exact ⟨.int .i64 k, by simp only [execOp, x1]; simp [go_sem], rfl⟩
          · refine dutyS_same (UnG.same (by decide)) fun d a w' hG hF hA => ?_
            have x1 := hA.val 4 32 rfl rfl ⟨⟨4, .data⟩, by simp, rfl, rfl⟩ rfl
            have x2 := hA.val 5 33 rfl rfl ⟨⟨5, .data⟩, by simp, rfl, rfl⟩ rfl
            exact ⟨.pointer (some ⟨g, k, none⟩), by simp only [execOp, x1, x2]; simp [go_sem, hkL], rfl⟩
          · refine dutyS_same (UnG.same (by decide)) fun d a w' hG hF hA => ?_
            have x1 := hA.val 6 34 rfl rfl ⟨⟨6, .data⟩, by simp, rfl, rfl⟩ rfl
            exact ⟨_, ex_cell rfl _ _ x1 (HCE.out d w' hG).2 rfl strT, rfl⟩
          · refine dutyS_same (UnG.same (by decide)) fun d a w' hG hF hA => ?_
            have x1 := hA.val 3 31 rfl rfl ⟨⟨3, .data⟩, by simp, rfl, rfl⟩ rfl
            have x2 := hA.val 7 35 rfl rfl ⟨⟨7, .data⟩, by simp, rfl, rfl⟩ rfl
            have hl := (HL.out w' (HCE.out d w' hG).1).2.1
            exact ⟨.map mb, by simp only [execOp, x1, x2]; simp [go_sem, hl], rfl⟩
          · intro d a w' hdi _ _ hG hF hA
            have x1 := hA.val 8 36 rfl rfl ⟨⟨8, .data⟩, by simp, rfl, rfl⟩ rfl
            have hd : d 9 = false := hdi
            obtain ⟨_, _, hmb, hnil, _⟩ := HL.out w' (HCE.out d w' hG).1
            unfold UnG at hG
            rw [if_neg (by rw [hd]; simp)] at hG
            obtain ⟨hEe, hsz⟩ := hG
            have hone : ∃ w4, (Instr.range 157 (.map mb)).run Tryz.prog w' = .ok (.pointer (some ⟨wo.heap.size, 0, none⟩)) w4 ∧ RngAt w4 wo.heap.size mb (kidsOf M p) (fun k => (mget (kidsOf M p) k).isSome) ∧ wo.grownBy w4 none ∧ w4.heap.size = wo.heap.size + 1 := by
              have hgE : wo.grownBy w' none := ⟨hEe.os, hEe.tape, hEe.output, hEe.size, fun k hk _ => hEe.block k hk⟩
              cases hmbc : mb with
              | some b =>
                obtain ⟨w4, h1, h2, h3, h4⟩ := (show w'.ownsMap Tryz.prog 9 Rv b _ _ from hmb b hmbc).range (Maps.string_keyed strT) Tryz.underlying157
                rw [hsz] at h1 h2
                refine ⟨w4, h1, ⟨_, _, fun k => kvD_has _ k, h2⟩, ⟨h3.os.trans hgE.os, h3.tape.trans hgE.tape, h3.output.trans hgE.output, by omega, fun k hk hn => (h3.block k (by omega) hn).trans (hgE.block k hk hn)⟩, by omega⟩
              | none =>
                have h1 := run_range_nilMap (P := Tryz.prog) w' 157 9 205 Tryz.underlying157
                rw [hsz] at h1
                have h3 := hnil hmbc
                refine ⟨_, h1, ⟨h3, fun k => by rw [h3]; rfl, by rw [← hsz]; exact heap_alloc_new w' _⟩, ⟨hgE.os, hgE.tape, hgE.output, by simp; omega, fun k hk hn => (heap_alloc_old w' _ (by omega)).trans (hgE.block k hk hn)⟩, by simp [hsz]⟩
            obtain ⟨w4, h1, h2⟩ := hone
            refine wp_value (w' := w4) (v := .pointer (some ⟨wo.heap.size, 0, none⟩)) (by simp only [execOp, x1]; simp [h1, Result.andThen]) ⟨_, rfl, rfl, ?_⟩
            show UnG wo mb (kidsOf M p) (fun k => d k || k == 9) w4
            unfold UnG
            rw [if_pos (by simp)]
            exact h2
        case rest =>
          intro d W5 hdn hG5
          have h9 := hdn 9 (by decide)
          unfold UnG at hG5
          rw [if_pos h9] at hG5
          obtain ⟨hRg, hgr, hsz5⟩ := hG5
          have hzr := HROW.out.lt g rfl
          have hrow5 := HROW.out.kept hgr (.inr (by simp [Value.ownBlock]))
          have hE5 : Ext w W5 := HE.out.trans ⟨hgr.os, hgr.tape, hgr.output, hgr.size, fun k hk => hgr.block k hk (by simp)⟩
          have hB5 := HBf.out.enter HP.out
          have HRg := Lib.hid hRg
          have HROW5 := Lib.hid hrow5
          have HE5 := Lib.hid hE5
          have HB5 := Lib.hid hB5
          clear hRg hrow5 hE5 hB5 hgr h9 hdn HG0 HL HCE
          simp only [filled, List.zip_cons_cons, List.zip_nil_left, List.foldl_cons, List.foldl_nil, Act.put, List.setIfInBounds_toArray, List.set_cons_succ, List.set_cons_zero, Exit.inBlock, Exit.then]
          rename_i hK
          refine hK _ _ ?_
          clear hK
          go_wp2
          go_loopw [7] (fun lv wr2 => ∃ (l2 : List ByteArray) (left : Key → Bool), l2[k]? = some p ∧ Bfs M s l2 k left ∧ wr2.ownsRow W2.heap.size 9 1 lv l2.length (l2.map Value.string) ∧ RngAt wr2 wo.heap.size mb (kidsOf M p) left ∧ Ext w wr2) (fun _ wr2 => rngLeft mb wo.heap.size wr2)
          case atStart => exact ⟨l, _, HP.out, HB5.out, HROW5.out, HRg.out, HE5.out⟩
          case round =>
            obtain ⟨l2, left, hp2, hB2, hrow2, hRg2, hE2⟩ := hrel
            have hl2M := hB2.length_le
            have hk2 : k < l2.length := (List.getElem?_eq_some_iff.1 hp2).1
            obtain ⟨g2, cap2, hlv2, hgb2⟩ : ∃ g cap, u7 = .slice (some ⟨g, 0, none⟩) l2.length cap ∧ W2.heap.size ≤ g := by
              rcases hrow2.2 with ⟨_, h⟩ | ⟨g, cap, cur, h, hb, _⟩
              · omega
              · exact ⟨g, cap, h, hb⟩
            subst hlv2
            obtain ⟨it1, it2, it3, it4, hit⟩ := hRg2.iter
            have hgr2 : g2 ≠ wo.heap.size := fun e => by
              obtain ⟨c, hc⟩ := ownBlock_at hrow2 g2 rfl
              rw [e, hit] at hc
              cases hc
            have HRW2 := Lib.hid hrow2
            have HB2 := Lib.hid hB2
            have HP2 := Lib.hid hp2
            have HE2 := Lib.hid hE2
            clear hrow2 hB2 hp2 hE2 hit HRg HROW5 HE5 HB5 HROW HBf
            go_wp2_with (at_next; refine wpList_next_any _ rfl _ rfl mb wo.heap.size (kidsOf M p) left rfl hRg2 ?_ ?_)
            · intro hlx
              have hB3 := HB2.out.round HP2.out (fun y hy => hlx y.1)
              have HB3 := Lib.hid hB3
              clear hlx hB3 hRg2
              go_wp2
              go_roundw
              case rel => exact ⟨k + 1, l2, by go_num, by omega, HB3.out, HRW2.out, HE2.out⟩
              case measure => simp [intOf]; omega
            · intro nm nv w6 hnm hln hmg hRg6 hlt6 hg6 hsz6 hen
              obtain ⟨x, hx, hch, he⟩ := mem_kids.1 (mget_some_mem hmg)
              obtain ⟨he1, rfl⟩ := Prod.mk.inj he
              have hMo := HM.out
              have hjn := (join_child hMo hx HY2.out.1 (by rw [HY2.out.2]; exact hch) he1).2
              rw [HY2.out.2] at hjn
              have hps2 : p.size ≤ 140737488355328 := by
                have := (vpath_facts (right_vpath (hMo.right y2 HY2.out.1))).2.1
                rw [HY2.out.2] at this; omega
              have hnm2 : nm.size ≤ 140737488355328 := by
                have h1 := (path_split (right_vpath (hMo.right x hx)) (childOf_iff.1 hch).1).1
                have h2 := (vpath_facts (right_vpath (hMo.right x hx))).2.1
                have h3 := congrArg List.length h1
                rw [List.length_append] at h3
                have h4 : nm.data.toList.length = (nameB x.2.path).data.toList.length := congrArg List.length he1
                rw [← size_list] at h2 ⊢
                omega
              have CJ := join_any p nm w6 hps2 hnm2
              rw [hjn] at CJ
              have hrow6 := HRW2.out.kept hg6 (.inr (by simp [Value.ownBlock]; exact hgr2))
              have hc6 : w6.cell? ⟨g2, k, none⟩ = some (.string p) := by
                have := hrow6.cells (g := g2) rfl k (.string p) (by rw [List.getElem?_map, HP2.out]; rfl)
                rw [addr_add, Nat.zero_add] at this
                exact this
              have hE6 : Ext w w6 := HE2.out.trans' ⟨hg6.os, hg6.tape, hg6.output, hg6.size, fun i hi => hg6.block i (Nat.lt_of_lt_of_le hi HE2.out.size) (fun e => by
                have := Option.some.inj e
                have h1 := HE.out.size
                omega)⟩
              have hBs := HB2.out.step hMo HC.out HP2.out hx hch (by rw [← he1]; exact hln)
              have hxs := (vpath_facts (right_vpath (hMo.right x hx))).2.1
              rw [← he1] at hBs
              have CJ := Lib.hid CJ
              have HRW6 := Lib.hid hrow6
              have HE6 := Lib.hid hE6
              have HBS := Lib.hid hBs
              have HRG6 := Lib.hid hRg6
              have HLT6 := Lib.hid hlt6
              have hk2' : k < l2.length := hk2
              clear hjn hrow6 hE6 hBs hRg6 hlt6 hmg he hch hx hMo hRg2 hg6
              have hl3 := HBS.out.length_le
              rw [List.length_append] at hl3
              simp only [List.length_cons, List.length_nil] at hl3
              go_wp2_with fail
              refine CJ.out.mono ?_
              rintro e w7 ⟨rfl, hb7⟩
              have hE7 : Ext w6 w7 := hb7
              have hrow7 := HRW6.out.kept (ext_grown hE7 none) (.inr (by simp [Value.ownBlock]))
              have hrow8 := hrow7.alloc (.cells #[.string x.2.path] 9)
              have hs1 : Cells (w7.alloc (.cells #[.string x.2.path] 9)).heap.size (w7.alloc (.cells #[.string x.2.path] 9)) (some ⟨w7.heap.size, 0, none⟩) [.string x.2.path] := fun j u hj => by
                refine ⟨_, 0, rfl, by simp, ?_⟩
                rw [Nat.zero_add, cell_of_row _ _ _ _ _ _ (heap_alloc_new w7 _)]
                simpa using hj
              have hsrc : Src Tryz.prog 1 56 (.slice (some ⟨w7.heap.size, 0, none⟩) 1 1) 1 [.string x.2.path] (w7.alloc (.cells #[.string x.2.path] 9)) := hs1.src Tryz.underlying56 1 1 (by simp) (fun u hu => by simp at hu; subst hu; rfl)
              obtain ⟨i0, hi, hz0, hz1', hz2⟩ := strInfo
              obtain ⟨hRg7, hlt7⟩ := HRG6.out.kept (ext_grown hE7 none) (fun _ _ => by simp) (by simp)
              obtain ⟨hRg8, hlt8⟩ := hRg7.kept (World.grownBy_alloc w7 (.cells #[.string x.2.path] 9) none) (fun _ _ => by simp) (by simp)
              have hE8 : Ext w (w7.alloc (.cells #[.string x.2.path] 9)) := (HE6.out.trans hE7).trans (Ext.alloc _ _)
              have hz7 := hE7.size
              have hzE := HE6.out.size
              have hW2z := hrow8.lt g2 rfl
              have HRG8 := Lib.hid hRg8
              have HE8 := Lib.hid hE8
              have HLT8 := Lib.hid (hlt8.trans hlt7)
              clear CJ hb7 hE7 hs1 hRg7 hlt7 hRg8 hlt8 hE8 hrow7 HRG6
              go_wp2_with (at_builtin; refine wpList_append_src _ rfl (.tmp 51) (.tmp 53) 56 56 rfl W2.heap.size 9 i0 (.string ⟨#[]⟩) 1 16 Tryz.underlying56 hi hz0 hz1' hz2 rfl (by decide) _ l2.length _ rfl hrow8 _ 1 _ rfl hsrc ?c1 ?c2 ?c3 ?_)
              case c1 => unfold maxLen; omega
              case c2 => omega
              case c3 => have := hW2z.2; simp at this ⊢; omega
              intro v' w9 hown9 hg9 _ ho9
              have hbrow : ∀ b, mb = some b → some b ≠ (Value.slice (some ⟨g2, 0, none⟩) l2.length cap2).ownBlock := fun b hb e => by
                have h1 := HT.out.bound b (HMS.out b hb)
                have h2 : b = g2 := by simpa [Value.ownBlock] using e
                omega
              obtain ⟨hRg9, hlt9⟩ := HRG8.out.kept hg9 hbrow (by simp [Value.ownBlock]; exact fun e => hgr2 e.symm)
              have hE9 : Ext w w9 := HE8.out.trans' ⟨hg9.os, hg9.tape, hg9.output, hg9.size, fun i hi => hg9.block i (Nat.lt_of_lt_of_le hi HE8.out.size) (fun e => by
                have h2 : i = g2 := by simpa [Value.ownBlock] using e
                omega)⟩
              have hown9' : w9.ownsRow W2.heap.size 9 1 v' (l2 ++ [x.2.path]).length ((l2 ++ [x.2.path]).map Value.string) := by
                simpa using hown9
              have hp9 : (l2 ++ [x.2.path])[k]? = some p := by rw [List.getElem?_append_left hk2']; exact HP2.out
              have hlt : rngLeft mb wo.heap.size w9 < rngLeft mb wo.heap.size wr := by
                rw [hlt9, HLT8.out]; exact HLT6.out
              have HREL := Lib.hid (show ∃ (l2 : List ByteArray) (left : Key → Bool), l2[k]? = some p ∧ Bfs M s l2 k left ∧ w9.ownsRow W2.heap.size 9 1 v' l2.length (l2.map Value.string) ∧ RngAt w9 wo.heap.size mb (kidsOf M p) left ∧ Ext w w9 from ⟨_, _, hp9, HBS.out, hown9', hRg9, hE9⟩)
              have HLT := Lib.hid hlt
              clear hRg9 hlt9 hE9 hown9' hp9 hlt hown9 hg9 ho9 hsrc hrow8 hbrow hen
              go_wp2
              go_roundw
              case rel => exact HREL.out
              case measure => exact HLT.out
      · obtain rfl : k = l.length := by omega
        rcases hrow.2 with ⟨_, h0⟩ | ⟨g, cap, cur, rfl, hbase, hb, h1, h2, h3, h4⟩
        · have := hB.head
          rw [List.eq_nil_of_length_eq_zero h0] at this
          simp at this
        have h4' : cur.toList.take (l.map fun p => p.data.toList).length = (l.map fun p => p.data.toList).map encStr := by
          rw [List.length_map, List.map_map, ← Nat.mul_one l.length, h4]
          refine List.map_congr_left fun p _ => ?_
          simp [encStr]
        have hsrt := hB.sorted HM.out HC.out
        have CS : Calls Tryz.prog 189 #[.slice (some ⟨g, 0, none⟩) l.length cap] wo fun e w' => e = .returned (.tuple #[]) ∧ ∃ n os, w' = grow (putRow encStr (Sort.ahead wo n) g 0 ((l.map fun p => p.data.toList).mergeSort fun x y => decide (x ≤ y)).toArray) os := by
          have := AnyM.slices_Sort_string Tryz.sortS g 0 cap (l.map fun p => p.data.toList) wo (holds_of_block hb h4') (Array.getElem?_eq_some_iff.1 hb).1 (by rw [List.length_map]; omega)
          rw [List.length_map] at this
          exact this
        rw [hsrt] at CS
        have hul : (undK M s).length = (l.map fun p => p.data.toList).length := by rw [← hsrt, List.length_mergeSort]
        have hlm : (l.map fun p => p.data.toList).length = l.length := List.length_map _
        have hfin : ∀ n os, SortedOut (UndL M s) w (.returned (.slice (some ⟨g, 0, none⟩) l.length cap)) (grow (putRow encStr (Sort.ahead wo n) g 0 (undK M s).toArray) os) := fun n os => by
          rw [HU.out]
          have h5 := ownsRow_sorted (n := n) (os := os) hul hbase hb (by rw [hlm]; exact h1) h2 h3
          rw [hlm, ← hlm, ← hul] at h5
          have hpos : 0 < l.length := List.length_pos_of_mem hB.head
          have hE9 := grownBy_sorted (n := n) (os := os) (w := wo) (g := g) (undK M s).toArray
          refine ⟨_, by rw [← hlm, ← hul], ownsRow_base_a h5 (by have := HEW.out.size; omega), ⟨fun e => (by cases e), fun e => (by rw [e] at hul; rw [hlm] at hul; simp at hul; omega)⟩, hE.trans' ⟨hE9.os, hE9.tape, hE9.output, hE9.size, fun i hi => hE9.block i (Nat.lt_of_lt_of_le hi hE.size) (fun e => by
            have := Option.some.inj e
            have := HEW.out.size
            omega)⟩⟩
        have CS := Lib.hid CS
        have HFIN := Lib.hid hfin
        clear hfin hul hsrt h4' h4 hb hB hE hrow
        go_wp2_with fail
        refine CS.out.mono ?_
        rintro e w8 ⟨rfl, n, os, rfl⟩
        clear CS
        go_wp2
        go_ret
        exact HFIN.out n os
end Go.Proofs.YthinpbdbhijbgaaGreatDoor
namespace Go.Proofs.YthinpbdbhijbgaaGreatDoor
open Go.RowKit Go.Sort
set_option maxHeartbeats 2000000
set_option maxRecDepth 100000
attribute [local go_sem] Oper.semAt_some

end Go.Proofs.YthinpbdbhijbgaaGreatDoor
namespace Go.Proofs.YthinpbdbhijbgaaGreatDoor
open Go.RowKit Go.Sort
set_option maxHeartbeats 2000000
set_option maxRecDepth 100000

theorem zeroNd_one : zeroNd.all (·.oneCell') = true := by simp [zeroNd, Value.oneCell']
theorem setRow_self (w : World) (z : Array Value) (t : TypeId) : (w.alloc (.cells z t)).setRow w.heap.size z = w.alloc (.cells z t) := setRow_alloc w z z t

theorem tget_nil (s : ByteArray) (w : World) : Calls Tryz.prog 54 #[.pointer none, .string s] w fun e w' => e = .returned (.tuple #[.agg zeroNd, .bool false]) ∧ Ext w w' := by
  have HS := Lib.hid (setRow_self w zeroNd 44)
  have HNew := Lib.hid (heap_alloc_new w (.cells zeroNd 44))
  have HNew2 := Lib.hid (heap_alloc_new w (.cells zeroNd 44))
  unfold zeroNd at HS HNew
  go_enter Tryz.func54, Tryz.ntmps54
  go_wp2_with (refine wpList_store_row rfl 44 (.tmp 4) (.tmp 10) rfl w.heap.size _ rfl rfl 44 _ HNew.out sizeNd rfl zeroNd_one ?_; rw [HS.out])
  refine bodyPost_ret (v := .tuple #[.agg zeroNd, .bool false]) ?_ rfl ⟨rfl, Ext.alloc _ _⟩
  exact results_cell_row2 (p := 4) (q := 5) (ty := 44) rfl _ _ w.heap.size 44 _ (0, 0) _ _ rfl rfl HNew2.out Tryz.underlying44 rfl sizeNd

end Go.Proofs.YthinpbdbhijbgaaGreatDoor
namespace Go.Proofs.YthinpbdbhijbgaaGreatDoor
open Go.RowKit Go.Sort
set_option maxHeartbeats 4000000
set_option maxRecDepth 100000

/-- What is found stands where it was found. -/
theorem rfind_node {M : List (Key × Nd)} (hM : MOk M) (s : ByteArray) {y : Nd} (hg : mget M s.data.toList = some y) : (rfind (nds M) s).1 < (nds M).length ∧ (nds M)[(rfind (nds M) s).1]? = some y := by
  have h2 := rfind_there hM.sorted hM.key s
  rw [hg] at h2
  obtain ⟨n, hn, hp⟩ := rfind_lt (nds M) s h2
  have hl := (List.getElem?_eq_some_iff.1 hn).1
  refine ⟨hl, ?_⟩
  rw [hn]
  have hm : n ∈ nds M := List.mem_of_getElem? hn
  obtain ⟨x, hx, rfl⟩ := List.mem_map.1 hm
  have hk := hM.key x hx
  have : mget M x.1 = some x.2 := mget_of_mem hM.sorted hx
  rw [hk] at this
  unfold keyN at this
  rw [hp, hg] at this
  exact this.symm

theorem setRow_same (w : World) (g : Nat) (cs : Array Value) (t : TypeId) (h : w.heap[g]? = some (.cells cs t (0, 0))) : w.setRow g cs = w := by
  refine world_ext ?_ rfl rfl rfl rfl
  apply Array.ext_getElem?
  intro i
  by_cases hi : i = g
  · subst hi
    rw [setRow_heap _ _ _ _ _ _ h, h]
  · rw [setRow_other _ _ _ _ hi]

/-- A node stored into the result's box. -/
theorem getOut_store (M : List (Key × Nd)) (s : ByteArray) (b : Bool) (m : Nd) (w w3 : World) (cs0 : Array Value) (B0 : Nat) (hB0 : w.heap.size < B0) (v : Value) (hE : Ext w w3) (hr : w3.heap[w.heap.size]? = some (.cells cs0 44 (0, 0))) (hN : NdS (fun k => B0 ≤ k ∧ k < w3.heap.size) w3 v m) :
    ∃ da dc aa ac, v = .agg (ndC m (.slice da m.data.length dc) (.slice aa m.acl.length ac)) ∧ (w3.setRow w.heap.size (ndC m (.slice da m.data.length dc) (.slice aa m.acl.length ac))).heap[w.heap.size]? = some (.cells (ndC m (.slice da m.data.length dc) (.slice aa m.acl.length ac)) 44 (0, 0)) ∧
      NdS (fun b => w.heap.size ≤ b ∧ b < (w3.setRow w.heap.size (ndC m (.slice da m.data.length dc) (.slice aa m.acl.length ac))).heap.size) (w3.setRow w.heap.size (ndC m (.slice da m.data.length dc) (.slice aa m.acl.length ac))) v m ∧
      Ext w (w3.setRow w.heap.size (ndC m (.slice da m.data.length dc) (.slice aa m.acl.length ac))) := by
  obtain ⟨da, dc, aa, ac, rfl, h1, h2⟩ := hN
  refine ⟨da, dc, aa, ac, rfl, ?_⟩
  generalize hcs : ndC m (.slice da m.data.length dc) (.slice aa m.acl.length ac) = cs
  have hs4 : (w3.setRow w.heap.size cs).heap.size = w3.heap.size := by simp [World.setRow]
  have hb4 : Ext w (w3.setRow w.heap.size cs) := hE.trans' ⟨rfl, rfl, rfl, by rw [hs4]; exact Nat.le_refl _, fun k hk => setRow_other _ _ _ _ (by omega)⟩
  have hk : ∀ (b o : Nat) u, (B0 ≤ b ∧ b < w3.heap.size) → w3.cell? ⟨b, o, none⟩ = some u → (w3.setRow w.heap.size cs).cell? ⟨b, o, none⟩ = some u := fun b o u hb hu =>
    (World.cell?_of_block (setRow_other _ _ _ _ (show b ≠ w.heap.size by have := hb.1; omega))).trans hu
  exact ⟨setRow_heap w3 w.heap.size _ cs 44 (0, 0) hr, ⟨da, dc, aa, ac, by rw [hcs], h1.imp (fun b hb => ⟨by omega, by omega⟩) hk, h2.imp (fun b hb => ⟨by omega, by omega⟩) hk⟩, hb4⟩

theorem rget_any (w : World) (b : Nat) (M : List (Key × Nd)) (hR : RT w b (nds M)) (hM : MOk M) (s : ByteArray) (hs : s.size ≤ 9223372036854775800) : Calls Tryz.prog 79 #[.pointer (some ⟨b, 0, none⟩), .string s] w (GetOut M s w) := by
  obtain ⟨W1, hW1⟩ : ∃ W1, W1 = w.alloc (.cells zeroNd 44) := ⟨_, rfl⟩
  have hE1 : Ext w W1 := by rw [hW1]; exact Ext.alloc _ _
  have hz1 : W1.heap.size = w.heap.size + 1 := by rw [hW1]; simp
  have hr1 : W1.heap[w.heap.size]? = some (.cells zeroNd 44 (0, 0)) := by rw [hW1]; exact heap_alloc_new w _
  have hR1 := hR.ext hE1
  have CF := rfind_any _ W1 b (nds M) hR1 (nds_fit hM) s hs
  rw [rfind_isSome hM s] at CF
  cases hg : mget M s.data.toList with
  | none =>
    rw [hg] at CF
    have HS := fun W : World => Lib.hid (fun (h : W.heap[w.heap.size]? = some (.cells zeroNd 44 (0, 0))) => setRow_same W w.heap.size zeroNd 44 h)
    have HW1 := Lib.hid hW1
    have HR1 := Lib.hid hr1
    have HE1 := Lib.hid hE1
    have CF := Lib.hid CF
    have HG := Lib.hid hg
    unfold zeroNd at HW1
    clear hW1 hr1 hE1 hR1 hR hg
    go_enter Tryz.func79, Tryz.ntmps79
    go_wp2_with fail
    rw [← HW1.out]
    refine CF.out.mono ?_
    rintro e W2 ⟨rfl, hE2⟩
    have hE2 : Ext W1 W2 := hE2
    have hr2 := (hE2.block w.heap.size (by omega)).trans HR1.out
    have HR2 := Lib.hid hr2
    have hS2 := (HS W2).out hr2
    have HS2 := Lib.hid hS2
    have HE2 := Lib.hid (HE1.out.trans hE2)
    unfold zeroNd at HS2
    clear hE2 hr2 hS2 HS CF HW1
    go_wp2_with (refine wpList_store_row rfl 44 (.tmp 4) (.tmp 19) rfl w.heap.size _ rfl rfl 44 _ HR2.out sizeNd rfl zeroNd_one ?_; rw [HS2.out])
    have hfin : GetOut M s w (.returned (.tuple #[.agg zeroNd, .bool false])) W2 := ⟨_, by rw [HG.out]; rfl, by rw [HG.out]; exact zeroN_nds _ _, HE2.out⟩
    refine bodyPost_ret (v := .tuple #[.agg zeroNd, .bool false]) ?_ rfl hfin
    exact results_cell_row2 (p := 4) (q := 5) (ty := 44) rfl _ _ w.heap.size 44 _ (0, 0) _ _ rfl rfl HR2.out Tryz.underlying44 rfl sizeNd
  | some y =>
    rw [hg] at CF
    obtain ⟨hlt, hy⟩ := rfind_node hM s hg
    have hfy := nds_fit hM y (List.mem_of_getElem? hy)
    obtain ⟨a, cap, vs, hb, hl, hcm, hS, hrows, _⟩ := hR1
    obtain ⟨bl, off, da, dc, aa, ac, ea, hSb, hc, hD, hA, _⟩ := hrows.row hy
    subst ea
    have hlt2 : (rfind (nds M) s).1 < M.length := by rwa [nds_length] at hlt
    generalize (rfind (nds M) s).1 = k at *
    have hcb : W1.cell? ⟨b, 0, none⟩ = some (.slice (some ⟨bl, off, none⟩) (nds M).length cap) := cell_of_row _ _ _ _ _ _ hb
    have hbl := (Array.getElem?_eq_some_iff.1 hb).1
    have hl64 : (nds M).length ≤ 9223372036854775807 := by unfold maxLen at hcm; omega
    have HW1 := Lib.hid hW1
    have HR1 := Lib.hid hr1
    have HE1 := Lib.hid hE1
    have HCB := Lib.hid hcb
    have HC := Lib.hid hc
    have HS := Lib.hid hS
    have HD := Lib.hid (hD.cells fun b hb => (hS b hb).1)
    have HA := Lib.hid (hA.cells fun b hb => (hS b hb).1)
    have CF := Lib.hid CF
    have HG := Lib.hid hg
    unfold zeroNd at HW1
    clear hW1 hr1 hE1 hR hg hcb hc hS hD hA hb hrows hy hlt2
    go_enter Tryz.func79, Tryz.ntmps79
    go_wp2_with fail
    rw [← HW1.out]
    refine CF.out.mono ?_
    rintro e W2 ⟨rfl, hE2⟩
    have hE2 : Ext W1 W2 := hE2
    have hz2 := hE2.size
    have hr2 := (hE2.block w.heap.size (by omega)).trans HR1.out
    have hcb2 : W2.cell? ⟨b, 0, none⟩ = some (.slice (some ⟨bl, off, none⟩) (nds M).length cap) := (hE2.cell (p := ⟨b, 0, none⟩) hbl).trans HCB.out
    have hcw : ∀ j u, (ndC y (.slice da y.data.length dc) (.slice aa y.acl.length ac))[j]? = some u → W2.cell? ((⟨bl, off + k * 17, none⟩ : Addr).add j) = some u := fun j u hj => by
      rw [addr_add, hE2.cell (p := ⟨bl, off + k * 17 + j, none⟩) (HS.out bl hSb).1]
      exact HC.out j u hj
    have CC := Lib.hid (rclone_new y da aa dc ac W2 hfy (HD.out.ext hE2) (HA.out.ext hE2))
    have HR2 := Lib.hid hr2
    have HE2 := Lib.hid (HE1.out.trans hE2)
    have HC2 := Lib.hid hcw
    unfold ndC at HC2
    clear hE2 hr2 CF HW1 hcw HC HD HA HS HCB
    go_wp2_with (refine wpList_load_at rfl 44 (.tmp 25) rfl _ rfl _ _ HC2.out Tryz.underlying44 rfl sizeNd ?_)
    refine CC.out.mono ?_
    rintro e W3 ⟨v, rfl, hN, hE3⟩
    have hE3 : Ext W2 W3 := hE3
    have hr3 := (hE3.block w.heap.size (by omega)).trans HR2.out
    obtain ⟨va, vc, vb, vd, rfl, hr4, hN4, hE4⟩ := getOut_store M s true y w W3 _ W2.heap.size (by omega) v (HE2.out.trans hE3) hr3 hN
    have hfin : GetOut M s w (.returned (.tuple #[.agg (ndC y (.slice va y.data.length vc) (.slice vb y.acl.length vd)), .bool true])) _ := ⟨_, by rw [HG.out]; rfl, by rw [HG.out]; exact hN4, hE4⟩
    have HR3 := Lib.hid hr3
    have HR4 := Lib.hid hr4
    have HFIN := Lib.hid hfin
    clear hE3 hr3 hr4 hN hN4 hE4 hfin CC HC2 hcb2
    go_wp2_with (refine wpList_store_row rfl 44 (.tmp 4) (.tmp 27) rfl w.heap.size _ rfl rfl 44 _ HR3.out sizeNd rfl (cells_node y va vb _ _ vc vd) ?_)
    refine bodyPost_ret (v := .tuple #[.agg (ndC y (.slice va y.data.length vc) (.slice vb y.acl.length vd)), .bool true]) ?_ rfl HFIN.out
    exact results_cell_row2 (p := 4) (q := 5) (ty := 44) rfl _ _ w.heap.size 44 _ (0, 0) _ _ rfl rfl HR4.out Tryz.underlying44 rfl sizeNd
end Go.Proofs.YthinpbdbhijbgaaGreatDoor
namespace Go.Proofs.YthinpbdbhijbgaaGreatDoor
open Go.RowKit
set_option maxHeartbeats 1000000

theorem wtN_one (M : List (Key × Nd)) (s : ByteArray) : wtN M s (fun _ => 1) = (undK M s).length := by
  unfold wtN undK
  rw [List.length_map]
  generalize M.filter (fun x => und x.2.path s) = l
  induction l with
  | nil => rfl
  | cons x l ih =>
    rw [List.map_cons, List.sum_cons, ih, List.length_cons, Nat.add_comm]
theorem sum_le_len {α : Type} (l : List α) (a : α → Nat) (B : Nat) (h : ∀ x ∈ l, a x ≤ B) : (l.map a).sum ≤ l.length * B := by
  induction l with
  | nil => simp
  | cons x l ih =>
    have h1 := h x (List.mem_cons_self ..)
    have h2 := ih fun y hy => h y (List.mem_cons_of_mem _ hy)
    simp only [List.map_cons, List.sum_cons, List.length_cons, Nat.add_mul]; omega
theorem wtN_le (M : List (Key × Nd)) (s : ByteArray) (a : Nd → Nat) (B : Nat) (h : ∀ x ∈ M, a x.2 ≤ B) : wtN M s a ≤ M.length * B := by
  unfold wtN
  refine Nat.le_trans (sum_le_len _ _ B fun x hx => h x (List.mem_filter.1 hx).1) ?_
  exact Nat.mul_le_mul_right _ (List.length_filter_le _ _)
theorem undK_length_le (M : List (Key × Nd)) (s : ByteArray) : (undK M s).length ≤ M.length := by
  unfold undK; rw [List.length_map]; exact List.length_filter_le _ _

/-- The bytes of the nodes at these paths. -/
def bytesK (M : List (Key × Nd)) (ks : List Key) : Nat := (ks.map fun k => ((mget M k).getD zeroN).data.length).sum
theorem bytesK_und {M : List (Key × Nd)} (hM : MOk M) (s : ByteArray) : bytesK M (undK M s) = wtN M s (fun n => n.data.length) := by
  unfold bytesK undK wtN
  rw [List.map_map]
  congr 1
  refine List.map_congr_left fun x hx => ?_
  have hx' := (List.mem_filter.1 hx).1
  show ((mget M x.1).getD zeroN).data.length = _
  rw [mget_of_mem hM.sorted (show (x.1, x.2) ∈ M from hx')]
  rfl
theorem bytesK_succ (M : List (Key × Nd)) (ks : List Key) (k : Nat) (hk : k < ks.length) : bytesK M (ks.take (k + 1)) = bytesK M (ks.take k) + ((mget M ks[k]).getD zeroN).data.length := by
  unfold bytesK
  rw [List.take_succ_eq_append_getElem hk, List.map_append, List.sum_append]
  simp
theorem data_le {M : List (Key × Nd)} (hM : MOk M) (k : Key) : ((mget M k).getD zeroN).data.length ≤ 1048575 := by
  cases hg : mget M k with
  | none => simp [zeroN]
  | some n => exact (right_fit (hM.at hg).2).2.1
theorem bytesK_le {M : List (Key × Nd)} (hM : MOk M) (ks : List Key) : bytesK M ks ≤ ks.length * 1048575 :=
  sum_le_len ks _ _ fun k _ => data_le hM k

end Go.Proofs.YthinpbdbhijbgaaGreatDoor
namespace Go.Proofs.YthinpbdbhijbgaaGreatDoor
open Go.RowKit Go.Sort
set_option maxHeartbeats 2000000
set_option maxRecDepth 100000

theorem wpList_field {P : Program} {ops : Array Oper} {rest : List Oper} {o : Oper} {a : Act} {Q : Exit → Act → World → Prop} {w : World} (hg : o.guard = none) (ty : TypeId) (x : Operand) (i : Nat) (ho : o.op = .field ty x i) (u : Value) (hx : a.eval x = u) (v : Value)
    (hr : (Instr.field ty u i).run P w = .ok v w) (hK : wpList P ops Q rest (a.put o.dst v) w) : wpList P ops Q (o :: rest) a w :=
  wpList_plain hg fun K hK' => by
    subst hx
    unfold Oper.wp
    simp only [execOp, ho, Sem.run_bind, Sem.run_pure, Result.andThen_ok, hr]
    exact hK' _ _ hK
theorem field_data {a b c d e f g h i j k l m n o p q : Value} {w : World} : (Instr.field 44 (.agg #[a, b, c, d, e, f, g, h, i, j, k, l, m, n, o, p, q]) 1).run Tryz.prog w = .ok b w := by
  kernel_rfl

def WeighOut (M : List (Key × Nd)) (s : ByteArray) (w : World) (e : Ending) (w' : World) : Prop :=
  e = .returned (if (mget M s.data.toList).isSome = true then .tuple #[.int .i64 (undK M s).length, .int .i64 (bytesK M (undK M s)), .int .i64 0] else .tuple #[.int .i64 0, .int .i64 0, .int .i64 70]) ∧ Ext w w'

theorem UndL_none {M : List (Key × Nd)} {s : ByteArray} (h : mget M s.data.toList = none) : UndL M s = [] := by unfold UndL; rw [h]; rfl
theorem UndL_some {M : List (Key × Nd)} {s : ByteArray} {y : Nd} (h : mget M s.data.toList = some y) : UndL M s = undK M s := by unfold UndL; rw [h]; rfl
theorem und_self_mem {M : List (Key × Nd)} (hM : MOk M) {s : ByteArray} {y : Nd} (h : mget M s.data.toList = some y) : 0 < (undK M s).length := by
  have hm := mget_some_mem h
  have hp : y.path = s := (ba_ext (hM.at h).1).symm
  have : s.data.toList ∈ undK M s := by
    unfold undK
    exact List.mem_map.2 ⟨_, List.mem_filter.2 ⟨hm, by show und y.path s = true; rw [hp]; exact und_self s⟩, rfl⟩
  exact List.length_pos_of_mem this

theorem weigh_any (S : Nat → Prop) (w : World) (bt : Nat) (M : List (Key × Nd)) (N : Nat) (hT : TreeAt S w bt M N) (hc : Clo M) (s : ByteArray) (hs : s.size ≤ maxLen) (hN : M.length * 168 ≤ 140737488355328) :
    Calls Tryz.prog 85 #[.pointer (some ⟨bt, 0, none⟩), .string s] w (WeighOut M s w) := by
  have C1 := Lib.hid (under_any S w bt M N hT hc s hs (by omega))
  have HT := Lib.hid hT
  have hM := hT.ok
  clear hT
  go_enter Tryz.func85, Tryz.ntmps85
  go_wp2_with fail
  refine C1.out.mono ?_
  rintro e w1 ⟨v, rfl, hrow, hnil, hE1⟩
  clear C1
  obtain ⟨sa, sc, rfl, hcs⟩ := ownsRow_cells hrow
  cases hg : mget M s.data.toList with
  | none =>
    have hfin : WeighOut M s w (.returned (.tuple #[.int .i64 0, .int .i64 0, .int .i64 70])) w1 := ⟨by rw [hg]; rfl, hE1⟩
    have HFIN := Lib.hid hfin
    have e0 : (UndL M s).length = 0 := by rw [UndL_none hg]; rfl
    rw [e0] at *
    clear hfin hg hrow hnil hE1 hcs
    go_wp2
    go_ret3
    exact HFIN.out
  | some y =>
    have hU := UndL_some hg
    have hpos := und_self_mem hM hg
    rw [hU] at hcs
    rw [hU]
    generalize hks : undK M s = ks at *
    have hkl : ks.length ≤ M.length := by rw [← hks]; exact undK_length_le M s
    have hkey : ∀ k ∈ ks, k.length ≤ maxLen := fun k hk => by
      rw [← hks] at hk
      unfold undK at hk
      obtain ⟨x, hx, rfl⟩ := List.mem_map.1 hk
      have hxM := (List.mem_filter.1 hx).1
      have h1 := hM.key x hxM
      have h2 := (vpath_facts (right_vpath (hM.right x hxM))).2.1
      rw [h1]
      unfold keyN maxLen
      rw [size_list]; omega
    have hfin : WeighOut M s w (.returned (.tuple #[.int .i64 ks.length, .int .i64 (bytesK M ks), .int .i64 0])) w1 := ⟨by rw [hg, hks]; rfl, hE1⟩
    have HFIN := Lib.hid hfin
    have HCS := Lib.hid hcs
    have HKEY := Lib.hid hkey
    have hT1 := HT.out.ext hE1
    have HT1 := Lib.hid hT1
    have hlp : ¬ ks.length = 0 := by omega
    have hlb : ((ks.length : Int) == 0) = false := by simp; exact fun e => hlp (by rw [e]; rfl)
    have hl64 : ks.length ≤ 9223372036854775807 := by omega
    clear hfin hg hrow hnil hE1 hcs hkey hT1 hks HT hU hpos
    go_wp2
    go_loopw [8, 19] (fun sm i wr => ∃ k : Nat, k ≤ ks.length ∧ i = .int .i64 k ∧ sm = .int .i64 (bytesK M (ks.take k)) ∧ wr = w1) (fun _ i _ => ks.length - (intOf i).toNat)
    case atStart => exact ⟨0, Nat.zero_le _, rfl, rfl, rfl⟩
    case round =>
      obtain ⟨k, hk, rfl, rfl, rfl⟩ := hrel
      by_cases hlt : k < ks.length
      · obtain ⟨b, off, rfl, hb, hc⟩ := HCS.out k (encStr ks[k]) (by rw [List.getElem?_map, List.getElem?_eq_getElem hlt]; rfl)
        have hkz : (⟨ks[k].toArray⟩ : ByteArray).size ≤ maxLen := by
          have := HKEY.out ks[k] (List.getElem_mem hlt)
          rw [← size_list]; simpa using this
        obtain ⟨bn, bk, K, hd, hNd, hKd⟩ := HT1.out
        have hx := TreeAt.box hd
        obtain ⟨vv, hvv, _, hq⟩ := hNd.look' ⟨ks[k].toArray⟩ hkz
        rw [key_back] at hvv
        have hsucc := bytesK_succ M ks k hlt
        have hle1 := bytesK_le hM (ks.take k)
        have hle2 := data_le hM ks[k]
        have hln : (ks.take k).length ≤ ks.length := by simp; omega
        obtain ⟨ea, ec, fa, fc, rfl, _⟩ := hvv
        generalize (mget M ks[k]).getD zeroN = n at *
        have HSC := Lib.hid hsucc
        have hb1 : (0 : Int) ≤ (bytesK M (ks.take k) : Int) + (n.data.length : Int) := by omega
        have hb2 : (bytesK M (ks.take k) : Int) + (n.data.length : Int) < 9223372036854775808 := by omega
        unfold Box treeC at hx
        unfold ndC at hq
        clear hd hNd hKd hsucc
        go_wp2_with (refine wpList_field rfl 44 (.tmp 29) 1 rfl _ rfl (.slice ea n.data.length ec) field_data ?_)
        go_roundw
        case rel => exact ⟨k + 1, by omega, by go_num, by rw [HSC.out]; push_cast; go_num, by first | rfl | trivial⟩
        case measure => simp [intOf]; omega
      · obtain rfl : k = ks.length := by omega
        rw [List.take_length]
        go_wp2
        go_ret3
        exact HFIN.out
end Go.Proofs.YthinpbdbhijbgaaGreatDoor
