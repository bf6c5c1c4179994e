/- The list that grows while its places are gone through: in the end it holds what is under the first. The list under a path, sorted. The walk of paths.Join. Joining a node's path and a child's last part gives the child's path. The plain sums of TreeSums. The nodes of a tree in another order are the same tree: the plain law; a list turned round and about. What From makes of nodes has as many, and a root. The law DigestRuns, walked. -/
import Derived.Test.YtamolbegmkngdaaGreatDoorJDigestRuns12
import Derived.Test.YtamolbegmkngdaaGreatDoorJDigestRuns6
import Derived.Test.YtamolbegmkngdaaGreatDoorJDigestRuns4
import Derived.Test.YtamolbegmkngdaaGreatDoorJDigestRuns8
import Derived.Lib.IndexLaws
import Derived.Test.YtamolbegmkngdaaGreatDoorJDigestRuns5
import Derived.Test.YtamolbegmkngdaaGreatDoorJDigestRuns7
import Derived.Test.YtamolbegmkngdaaGreatDoorJDigestRuns9
import Derived.Test.YtamolbegmkngdaaGreatDoorJDigestRuns11
namespace Go.Proofs.YtamolbegmkngdaaGreatDoor
open Go.RowKit
set_option maxHeartbeats 1000000

theorem nodup_at {l : List ByteArray} (h : l.Nodup) {i j : Nat} (hi : i < l.length) (hj : j < l.length) (e : l[i] = l[j]) : i = j := by
  have hp := List.pairwise_iff_getElem.1 h
  rcases Nat.lt_trichotomy i j with hij | hij | hij
  · exact absurd e (hp i j hi hj hij)
  · exact hij
  · exact absurd e.symm (hp j i hj hi hij)
theorem nodup_len : ∀ (l m : List ByteArray), l.Nodup → l ⊆ m → l.length ≤ m.length
  | [], m, _, _ => Nat.zero_le _
  | a :: l, m, h, hs => by
    obtain ⟨h1, h2⟩ := List.nodup_cons.1 h
    obtain ⟨u, v, e⟩ := List.append_of_mem (hs (List.mem_cons_self ..))
    have := nodup_len l (u ++ v) h2 fun b hb => by
      have hb' := hs (List.mem_cons_of_mem _ hb)
      rw [e] at hb'
      rcases List.mem_append.1 hb' with hb' | hb'
      · exact List.mem_append_left _ hb'
      · rcases List.mem_cons.1 hb' with hb' | hb'
        · subst hb'; exact absurd hb h1
        · exact List.mem_append_right _ hb'
    rw [e]
    simp only [List.length_append, List.length_cons] at this ⊢
    omega

/-- l's places ahead of i are done, of place i those children that are not left. -/
structure Bfs (M : List (Key × Nd)) (s : ByteArray) (l : List ByteArray) (i : Nat) (left : Key → Bool) : Prop where
  head : s ∈ l
  nodup : l.Nodup
  mem : ∀ p ∈ l, ∃ x ∈ M, x.2.path = p ∧ und p s = true
  done : ∀ j p, j < i → l[j]? = some p → ∀ x ∈ M, childOf p x.2 = true → x.2.path ∈ l
  part : ∀ p, l[i]? = some p → ∀ x ∈ M, childOf p x.2 = true → left (nameK x.2) = false → x.2.path ∈ l
  back : ∀ p ∈ l, p = s ∨ ∃ j q, l[j]? = some q ∧ p.size ≠ 1 ∧ parentB p = q ∧ (j < i ∨ (j = i ∧ left (nameB p).data.toList = false))

theorem Bfs.start {M : List (Key × Nd)} {x : Key × Nd} (hx : x ∈ M) : Bfs M x.2.path [x.2.path] 0 (fun _ => true) :=
  ⟨by simp, by simp, fun p hp => by
    have : p = x.2.path := by simpa using hp
    exact ⟨x, hx, this.symm, by rw [this]; exact und_self _⟩, fun j p hj => by omega, fun p _ y _ _ h => by simp at h, fun p hp => .inl (by simpa using hp)⟩

theorem Bfs.round {M : List (Key × Nd)} {s : ByteArray} {l : List ByteArray} {i : Nat} {left : Key → Bool} (h : Bfs M s l i left) {p : ByteArray} (hp : l[i]? = some p) (hl : ∀ y ∈ kidsOf M p, left y.1 = false) : Bfs M s l (i + 1) (fun _ => true) :=
  ⟨h.head, h.nodup, h.mem, fun j q hj hq x hx hc => by
    by_cases hji : j = i
    · subst hji
      have e : p = q := Option.some.inj (hp.symm.trans hq)
      subst e
      exact h.part p hp x hx hc (hl _ (mem_kids.2 ⟨x, hx, hc, rfl⟩))
    · exact h.done j q (by omega) hq x hx hc, fun p _ y _ _ hh => by simp at hh, fun q hq => by
    rcases h.back q hq with e | ⟨j, r, h1, h2, h3, h4⟩
    · exact .inl e
    · exact .inr ⟨j, r, h1, h2, h3, .inl (by rcases h4 with h4 | h4 <;> omega)⟩⟩

theorem Bfs.step {M : List (Key × Nd)} (hM : MOk M) (hc : Clo M) {s : ByteArray} {l : List ByteArray} {i : Nat} {left : Key → Bool} (h : Bfs M s l i left) {p : ByteArray} (hp : l[i]? = some p) {x : Key × Nd} (hx : x ∈ M) (hch : childOf p x.2 = true) (hleft : left (nameK x.2) = true) :
    Bfs M s (l ++ [x.2.path]) i (fun k => left k && !(k == nameK x.2)) := by
  obtain ⟨c1, c2⟩ := childOf_iff.1 hch
  obtain ⟨y, hy, ey, hu⟩ := h.mem p (List.mem_of_getElem? hp)
  have hsz := (path_split (right_vpath (hM.right x hx)) c1).2.2.1
  have hnew : x.2.path ∉ l := by
    intro hm
    rcases h.back _ hm with e | ⟨j, q, h1, h2, h3, h4⟩
    · have := und_le hM hc hy (by rw [ey]; exact hu)
      rw [← e, ey, ← c2] at this
      omega
    · rw [c2] at h3
      subst h3
      have hj : j = i := by
        obtain ⟨a1, a2⟩ := List.getElem?_eq_some_iff.1 h1
        obtain ⟨b1, b2⟩ := List.getElem?_eq_some_iff.1 hp
        exact nodup_at h.nodup a1 b1 (a2.trans b2.symm)
      rcases h4 with h4 | ⟨_, h4⟩
      · omega
      · rw [show (nameB x.2.path).data.toList = nameK x.2 from rfl, hleft] at h4; cases h4
  obtain ⟨hi, ei⟩ := List.getElem?_eq_some_iff.1 hp
  have old : ∀ j q, (l ++ [x.2.path])[j]? = some q → j ≤ i → l[j]? = some q := fun j q hq hji => by
    rwa [List.getElem?_append_left (by omega)] at hq
  refine ⟨by simp [h.head], ?_, fun q hq => ?_, fun j q hj hq z hz hcz => ?_, fun q hq z hz hcz hlz => ?_, fun q hq => ?_⟩
  · rw [List.nodup_append]
    refine ⟨h.nodup, by simp, fun a ha b hb => ?_⟩
    have : b = x.2.path := by simpa using hb
    subst this
    exact fun e => hnew (e ▸ ha)
  · rcases List.mem_append.1 hq with hq | hq
    · exact h.mem q hq
    · have : q = x.2.path := by simpa using hq
      subst this
      exact ⟨x, hx, rfl, und_child hM hc hx hy (by rw [ey]; exact hch) s (by rw [ey]; exact hu)⟩
  · exact List.mem_append_left _ (h.done j q hj (old j q hq (by omega)) z hz hcz)
  · have hq' := old i q hq (Nat.le_refl _)
    have e : p = q := Option.some.inj (hp.symm.trans hq')
    subst e
    by_cases hn : nameK z.2 = nameK x.2
    · obtain ⟨d1, d2⟩ := childOf_iff.1 hcz
      have : z.2.path = x.2.path := by
        have a1 := (path_split (right_vpath (hM.right z hz)) d1).1
        have a2 := (path_split (right_vpath (hM.right x hx)) c1).1
        apply ba_ext
        rw [a1, a2, d2, c2]
        unfold nameK at hn
        rw [hn]
      rw [this]; simp
    · refine List.mem_append_left _ (h.part p hq' z hz hcz ?_)
      simpa [hn] using hlz
  · rcases List.mem_append.1 hq with hq | hq
    · rcases h.back q hq with e | ⟨j, r, h1, h2, h3, h4⟩
      · exact .inl e
      · refine .inr ⟨j, r, ?_, h2, h3, ?_⟩
        · rw [List.getElem?_append_left (List.getElem?_eq_some_iff.1 h1).1]; exact h1
        · rcases h4 with h4 | ⟨h4, h5⟩
          · exact .inl h4
          · exact .inr ⟨h4, by rw [h5]; rfl⟩
    · have : q = x.2.path := by simpa using hq
      subst this
      refine .inr ⟨i, p, ?_, c1, c2, .inr ⟨rfl, ?_⟩⟩
      · rw [List.getElem?_append_left hi]; exact hp
      · rw [show (nameB x.2.path).data.toList = nameK x.2 from rfl]
        simp

/-- In the end: just what is under s. -/
theorem Bfs.all {M : List (Key × Nd)} (hM : MOk M) (hc : Clo M) {s : ByteArray} {l : List ByteArray} {left : Key → Bool} (h : Bfs M s l l.length left) (p : ByteArray) : p ∈ l ↔ ∃ x ∈ M, x.2.path = p ∧ und p s = true := by
  constructor
  · exact h.mem p
  · rintro ⟨x, hx, rfl, hu⟩
    refine und_closed hM hc s l h.head (fun z hz h1 hpz => ?_) _ x hx (Nat.le_refl _) hu
    obtain ⟨j, hj, ej⟩ := List.getElem_of_mem hpz
    exact h.done j _ hj (by rw [List.getElem?_eq_getElem hj, ej]) z hz (childOf_iff.2 ⟨h1, rfl⟩)

/-- How long it gets. -/
theorem Bfs.length_le {M : List (Key × Nd)} {s : ByteArray} {l : List ByteArray} {i : Nat} {left : Key → Bool} (h : Bfs M s l i left) : l.length ≤ M.length := by
  have hsub : l ⊆ M.map (fun x => x.2.path) := fun p hp => by
    obtain ⟨x, hx, e, _⟩ := h.mem p hp
    exact List.mem_map.2 ⟨x, hx, e⟩
  have := nodup_len l _ h.nodup hsub
  simpa using this
end Go.Proofs.YtamolbegmkngdaaGreatDoor
namespace Go.Proofs.YtamolbegmkngdaaGreatDoor
open Go.RowKit
set_option maxHeartbeats 1000000

theorem perm_nodup : ∀ (l m : List Key), l.Nodup → m.Nodup → (∀ x, x ∈ l ↔ x ∈ m) → l.Perm m
  | [], m, _, _, h => by
    cases m with
    | nil => exact .refl _
    | cons b m => exact absurd ((h b).2 (List.mem_cons_self ..)) (by simp)
  | a :: l, m, hl, hm, h => by
    obtain ⟨u, v, rfl⟩ := List.append_of_mem ((h a).1 (List.mem_cons_self ..))
    obtain ⟨h1, h2⟩ := List.nodup_cons.1 hl
    have hm' : (a :: (u ++ v)).Nodup := (List.perm_middle.nodup_iff).1 hm
    obtain ⟨k1, k2⟩ := List.nodup_cons.1 hm'
    refine ((perm_nodup l (u ++ v) h2 k2 fun x => ?_).cons a).trans List.perm_middle.symm
    constructor
    · intro hx
      have := (h x).1 (List.mem_cons_of_mem _ hx)
      have hne : x ≠ a := fun e => h1 (e ▸ hx)
      simp only [List.mem_append, List.mem_cons] at this ⊢
      rcases this with h | h | h
      · exact .inl h
      · exact absurd h hne
      · exact .inr h
    · intro hx
      have hne : x ≠ a := fun e => k1 (e ▸ hx)
      have : x ∈ u ++ a :: v := by
        simp only [List.mem_append, List.mem_cons] at hx ⊢
        rcases hx with h | h
        · exact .inl h
        · exact .inr (.inr h)
      rcases List.mem_cons.1 ((h x).2 this) with h | h
      · exact absurd h hne
      · exact h

/-- The keys under s, in order. -/
def undK (M : List (Key × Nd)) (s : ByteArray) : List Key := (M.filter fun x => und x.2.path s).map (·.1)

theorem undK_sorted {M : List (Key × Nd)} (hM : MOk M) (s : ByteArray) : (undK M s).Pairwise fun a b => bytesBefore a b = true := by
  unfold undK
  rw [List.pairwise_map, List.pairwise_filter]
  exact List.Pairwise.imp (fun h _ _ => h) hM.sorted

theorem Bfs.sorted {M : List (Key × Nd)} (hM : MOk M) (hc : Clo M) {s : ByteArray} {l : List ByteArray} {left : Key → Bool} (h : Bfs M s l l.length left) :
    (l.map fun p => p.data.toList).mergeSort (fun x y => decide (x ≤ y)) = undK M s := by
  refine sortedKeys (undK_sorted hM s) (perm_nodup _ _ ?_ ?_ fun k => ?_)
  · unfold List.Nodup
    rw [List.pairwise_map]
    exact List.Pairwise.imp (fun h e => h (ba_ext e)) h.nodup
  · refine List.Pairwise.imp (fun {a b} hab e => ?_) (undK_sorted hM s)
    rw [e] at hab
    exact before_asymm hab hab
  · unfold undK
    simp only [List.mem_map, List.mem_filter]
    constructor
    · rintro ⟨p, hp, rfl⟩
      obtain ⟨x, hx, e, hu⟩ := (h.all hM hc p).1 hp
      exact ⟨x, ⟨hx, by rw [e]; exact hu⟩, by rw [hM.key x hx]; unfold keyN; rw [e]⟩
    · rintro ⟨x, ⟨hx, hu⟩, rfl⟩
      exact ⟨x.2.path, (h.all hM hc _).2 ⟨x, hx, rfl, hu⟩, (hM.key x hx).symm⟩
end Go.Proofs.YtamolbegmkngdaaGreatDoor
namespace Go.Proofs.YtamolbegmkngdaaGreatDoor
open Go.RowKit
set_option maxHeartbeats 1000000
set_option maxRecDepth 100000

/-- What Join joins. -/
def joinP (a n : ByteArray) : ByteArray := ByteArray.mk (Lib.trimSuffix a.data.toList [47]).toArray ++ ByteArray.mk #[47] ++ n
def hasSl (n : ByteArray) : Bool := decide (0 ≤ Lib.indexByte n.data.toList 47)
def joinV (a n : ByteArray) : Value := if vpath a = true ∧ hasSl n = false ∧ vpath (joinP a n) = true ∧ n.size ≠ 0 then .tuple #[.string (joinP a n), .int .i64 0] else .tuple #[.string ⟨#[]⟩, .int .i64 30]

theorem join_any (a n : ByteArray) (w : World) (ha : a.size ≤ 140737488355328) (hn : n.size ≤ 140737488355328) : Calls Tryz.prog 158 #[.string a, .string n] w fun e w' => e = .returned (joinV a n) ∧ Below w.heap.size w w' := by
  have q1 : a.size ≤ 140737488355328 := ha
  have q2 : n.size ≤ 140737488355328 := hn
  have hT : (ByteArray.mk (Lib.trimSuffix a.data.toList [47]).toArray).size ≤ 140737488355328 := by
    refine Nat.le_trans ?_ q1
    rw [← size_list, ← size_list]
    unfold Lib.trimSuffix
    split <;> simp
  have hj : (joinP a n).size ≤ 9223372036854775800 := by
    unfold joinP
    rw [ByteArray.size_append, ByteArray.size_append]
    have : (ByteArray.mk #[47]).size = 1 := rfl
    omega
  have C1 : ∀ w, Calls Tryz.prog 185 #[.string a, .string ⟨#[47]⟩] w fun e w' => e = .returned (.string ⟨(Lib.trimSuffix a.data.toList [47]).toArray⟩) ∧ w' = w := fun w => Tryz.strings_TrimSuffix a ⟨#[47]⟩ w (by omega)
  have C2 : ∀ w, Calls Tryz.prog 129 #[.string a] w fun e w' => e = .returned (.bool (vpath a)) ∧ Below w.heap.size w w' := fun w => valid_any a w (by omega)
  have C3 : ∀ w, Calls Tryz.prog 186 #[.string n, .string ⟨#[47]⟩] w fun e w' => e = .returned (.bool (hasSl n)) ∧ w' = w := fun w => Tryz.strings_Contains_one n 47 w
  have C4 : ∀ w, Calls Tryz.prog 129 #[.string (joinP a n)] w fun e w' => e = .returned (.bool (vpath (joinP a n))) ∧ Below w.heap.size w w' := fun w => valid_any (joinP a n) w (by omega)
  have R : Hid (joinV a n = if vpath a = true ∧ hasSl n = false ∧ vpath (joinP a n) = true ∧ n.size ≠ 0 then .tuple #[.string (joinP a n), .int .i64 0] else .tuple #[.string ⟨#[]⟩, .int .i64 30]) := Lib.hid rfl
  have J : Hid (joinP a n = ByteArray.mk (Lib.trimSuffix a.data.toList [47]).toArray ++ ByteArray.mk #[47] ++ n) := Lib.hid rfl
  generalize joinV a n = V at R
  generalize joinP a n = q at C4 R J hj
  generalize ByteArray.mk (Lib.trimSuffix a.data.toList [47]).toArray = T at C1 J hT
  generalize vpath a = b1 at C2 R
  generalize hasSl n = b2 at C3 R
  generalize vpath q = b3 at C4 R
  have C1 := Lib.hid C1
  have C2 := Lib.hid C2
  have C3 := Lib.hid C3
  have C4 := Lib.hid C4
  have g1 : ¬ (9223372036854775807 : Int) < (T.size : Int) + 1 := by omega
  have g2 : ¬ (9223372036854775807 : Int) < (T.size : Int) + 1 + (n.size : Int) := by omega
  clear q1 q2 ha hn hj hT
  cases b1 with
  | false =>
    go_enter Tryz.func158, Tryz.ntmps158
    go_wp2_with fail
    refine (C1.out _).mono ?_
    rintro e w1 ⟨rfl, rfl⟩
    go_wp2_with fail
    refine (C2.out _).mono ?_
    rintro e w1 ⟨rfl, hb1⟩
    clear C1 C2 C3 C4
    go_wp2
    go_ret2
    exact ⟨by rw [R.out]; rfl, hb1⟩
  | true =>
  cases b2 with
  | true =>
    go_enter Tryz.func158, Tryz.ntmps158
    go_wp2_with fail
    refine (C1.out _).mono ?_
    rintro e w1 ⟨rfl, rfl⟩
    go_wp2_with fail
    refine (C2.out _).mono ?_
    rintro e w1 ⟨rfl, hb1⟩
    go_wp2_with fail
    refine (C3.out _).mono ?_
    rintro e w2 ⟨rfl, rfl⟩
    clear C1 C2 C3 C4
    go_wp2
    go_ret2
    exact ⟨by rw [R.out]; rfl, hb1⟩
  | false =>
  cases b3 with
  | false =>
    go_enter Tryz.func158, Tryz.ntmps158
    go_wp2_with fail
    refine (C1.out _).mono ?_
    rintro e w1 ⟨rfl, rfl⟩
    go_wp2_with fail
    refine (C2.out _).mono ?_
    rintro e w1 ⟨rfl, hb1⟩
    go_wp2_with fail
    refine (C3.out _).mono ?_
    rintro e w2 ⟨rfl, rfl⟩
    go_wp2_with fail
    rw [← J.out]
    refine (C4.out _).mono ?_
    rintro e w3 ⟨rfl, hb3⟩
    clear C1 C2 C3 C4
    go_wp2
    go_ret2
    exact ⟨by rw [R.out]; rfl, hb1.trans (hb3.mono hb1.size)⟩
  | true =>
  by_cases h0 : n.size = 0
  · have e1 : n.toList = [] := by rw [ByteArray.toList_eq]; exact List.eq_nil_of_length_eq_zero (by rw [← size_list] at h0; exact h0)
    go_enter Tryz.func158, Tryz.ntmps158
    go_wp2_with fail
    refine (C1.out _).mono ?_
    rintro e w1 ⟨rfl, rfl⟩
    go_wp2_with fail
    refine (C2.out _).mono ?_
    rintro e w1 ⟨rfl, hb1⟩
    go_wp2_with fail
    refine (C3.out _).mono ?_
    rintro e w2 ⟨rfl, rfl⟩
    go_wp2_with fail
    rw [← J.out]
    refine (C4.out _).mono ?_
    rintro e w3 ⟨rfl, hb3⟩
    clear C1 C2 C3 C4
    go_wp2
    go_ret2
    exact ⟨by rw [R.out, if_neg (by simp [h0])]; rfl, hb1.trans (hb3.mono hb1.size)⟩
  · have e0 : ¬ n.toList = [] := by rw [ByteArray.toList_eq]; exact fun e => h0 (by rw [← size_list, e]; rfl)
    have e1 : (n.toList == []) = false := by simpa using e0
    have H0 := Lib.hid h0
    clear h0
    go_enter Tryz.func158, Tryz.ntmps158
    go_wp2_with fail
    refine (C1.out _).mono ?_
    rintro e w1 ⟨rfl, rfl⟩
    go_wp2_with fail
    refine (C2.out _).mono ?_
    rintro e w1 ⟨rfl, hb1⟩
    go_wp2_with fail
    refine (C3.out _).mono ?_
    rintro e w2 ⟨rfl, rfl⟩
    go_wp2_with fail
    rw [← J.out]
    refine (C4.out _).mono ?_
    rintro e w3 ⟨rfl, hb3⟩
    clear C1 C2 C3 C4
    go_wp2
    go_ret2
    exact ⟨by rw [R.out, if_pos (by simp [H0.out])]; rfl, hb1.trans (hb3.mono hb1.size)⟩
end Go.Proofs.YtamolbegmkngdaaGreatDoor
namespace Go.Proofs.YtamolbegmkngdaaGreatDoor
open Go.RowKit
set_option maxHeartbeats 1000000

theorem no_slash {n : ByteArray} (h : ¬ (47 : UInt8) ∈ n.data.toList) : hasSl n = false := by
  unfold hasSl
  have hge := Lib.indexByte_ge n.data.toList 47
  rcases Int.lt_or_le (Lib.indexByte n.data.toList 47) 0 with h0 | h0
  · simp; omega
  · obtain ⟨o, ho⟩ := Int.eq_ofNat_of_zero_le h0
    exact absurd (List.mem_of_getElem? (Lib.indexByte_some ho).1) h

theorem joinP_pre {a : ByteArray} (h : vpath a = true) (n : ByteArray) : (joinP a n).data.toList = preL a ++ n.data.toList := by
  have e : (joinP a n).data.toList = Lib.trimSuffix a.data.toList [47] ++ [47] ++ n.data.toList := by
    unfold joinP
    simp [ByteArray.data_append]
  rw [e]
  congr 1
  by_cases h1 : a.size = 1
  · have hr := (root_iff h).1 h1
    unfold preL
    rw [if_pos h1, hr]
    rfl
  · unfold preL
    rw [if_neg h1]
    congr 1
    unfold Lib.trimSuffix
    rw [if_neg]
    intro hs
    unfold Lib.hasSuffix at hs
    obtain ⟨t, ht⟩ := List.isSuffixOf_iff_suffix.1 hs
    obtain ⟨f1, _, _, f4⟩ := vpath_facts h
    rcases f4 with f4 | f4
    · exact h1 f4
    · apply f4.1
      rw [← bat_toList a (a.size - 1) (by omega)]
      have hl : t.length + 1 = a.size := by rw [← size_list, ← ht]; simp
      have : a.size - 1 = t.length := by omega
      simp only [this, ← ht]
      simp

theorem join_child {M : List (Key × Nd)} (hM : MOk M) {x y : Key × Nd} (hx : x ∈ M) (hy : y ∈ M) (h : childOf y.2.path x.2 = true) {n : ByteArray} (hn : n.data.toList = nameK x.2) :
    joinP y.2.path n = x.2.path ∧ joinV y.2.path n = .tuple #[.string x.2.path, .int .i64 0] := by
  obtain ⟨c1, c2⟩ := childOf_iff.1 h
  obtain ⟨p1, p2, _, p4⟩ := path_split (right_vpath (hM.right x hx)) c1
  have en : n = nameB x.2.path := ba_ext hn
  subst en
  have e : joinP y.2.path (nameB x.2.path) = x.2.path := by
    apply ba_ext
    rw [joinP_pre (right_vpath (hM.right y hy)), p1, c2]
  refine ⟨e, ?_⟩
  unfold joinV
  rw [e, if_pos ⟨right_vpath (hM.right y hy), no_slash p4, right_vpath (hM.right x hx), p2⟩]
end Go.Proofs.YtamolbegmkngdaaGreatDoor
namespace Go.Proofs.YtamolbegmkngdaaGreatDoor
open Go.RowKit
set_option maxHeartbeats 1000000

/-- The children of a path, in order. -/
def kidN (M : List (Key × Nd)) (p : ByteArray) : List (Key × Nd) := M.filter fun c => childOf p c.2
theorem kidsOf_map (M : List (Key × Nd)) (p : ByteArray) : kidsOf M p = (kidN M p).map fun x => (nameK x.2, Value.agg #[]) := rfl
theorem kidN_length (M : List (Key × Nd)) (p : ByteArray) : (kidN M p).length = (kidsOf M p).length := by rw [kidsOf_map, List.length_map]
theorem kidN_mem {M : List (Key × Nd)} {p : ByteArray} {x : Key × Nd} : x ∈ kidN M p ↔ x ∈ M ∧ childOf p x.2 = true := by
  unfold kidN; rw [List.mem_filter]
/-- The sum behind k children. -/
def partN (M : List (Key × Nd)) (p : ByteArray) (own : Nat) (a : Nd → Nat) (k : Nat) : Nat := own + (((kidN M p).take k).map fun c => wtN M c.2.path a).sum
theorem partN_zero (M : List (Key × Nd)) (p : ByteArray) (own : Nat) (a : Nd → Nat) : partN M p own a 0 = own := by
  unfold partN; simp
theorem partN_succ {M : List (Key × Nd)} {p : ByteArray} {own : Nat} {a : Nd → Nat} {k : Nat} (hk : k < (kidN M p).length) : partN M p own a (k + 1) = partN M p own a k + wtN M (kidN M p)[k].2.path a := by
  unfold partN
  rw [List.take_succ_eq_append_getElem hk, List.map_append, List.sum_append]
  simp only [List.map_cons, List.map_nil, List.sum_cons, List.sum_nil]
  omega
theorem partN_all {M : List (Key × Nd)} (hM : MOk M) (hc : Clo M) {s : Key × Nd} (hs : s ∈ M) (a : Nd → Nat) : partN M s.2.path (a s.2) a (kidN M s.2.path).length = wtN M s.2.path a := by
  rw [wt_split hM hc hs]
  unfold partN
  rw [List.take_length]
  rfl
theorem sum_take_le (l : List Nat) (k : Nat) : (l.take k).sum ≤ l.sum := by
  induction l generalizing k with
  | nil => simp
  | cons x l ih =>
    cases k with
    | zero => simp
    | succ k => simp only [List.take_succ_cons, List.sum_cons]; have := ih k; omega
theorem partN_le {M : List (Key × Nd)} (hM : MOk M) (hc : Clo M) {s : Key × Nd} (hs : s ∈ M) (a : Nd → Nat) (k : Nat) : partN M s.2.path (a s.2) a k ≤ wtN M s.2.path a := by
  rw [← partN_all hM hc hs a]
  unfold partN
  rw [List.take_length, List.map_take]
  have := sum_take_le ((kidN M s.2.path).map fun c => wtN M c.2.path a) k
  omega
theorem wtN_one (M : List (Key × Nd)) (s : ByteArray) : wtN M s (fun _ => 1) = (undK M s).length := by
  unfold wtN undK
  rw [List.length_map]
  generalize M.filter (fun x => und x.2.path s) = l
  induction l with
  | nil => rfl
  | cons x l ih =>
    rw [List.map_cons, List.sum_cons, ih, List.length_cons, Nat.add_comm]
theorem sum_le_len {α : Type} (l : List α) (a : α → Nat) (B : Nat) (h : ∀ x ∈ l, a x ≤ B) : (l.map a).sum ≤ l.length * B := by
  induction l with
  | nil => simp
  | cons x l ih =>
    have h1 := h x (List.mem_cons_self ..)
    have h2 := ih fun y hy => h y (List.mem_cons_of_mem _ hy)
    simp only [List.map_cons, List.sum_cons, List.length_cons, Nat.add_mul]; omega
theorem wtN_le (M : List (Key × Nd)) (s : ByteArray) (a : Nd → Nat) (B : Nat) (h : ∀ x ∈ M, a x.2 ≤ B) : wtN M s a ≤ M.length * B := by
  unfold wtN
  refine Nat.le_trans (sum_le_len _ _ B fun x hx => h x (List.mem_filter.1 hx).1) ?_
  exact Nat.mul_le_mul_right _ (List.length_filter_le _ _)
theorem undK_length_le (M : List (Key × Nd)) (s : ByteArray) : (undK M s).length ≤ M.length := by
  unfold undK; rw [List.length_map]; exact List.length_filter_le _ _

/-- The bytes of the nodes at these paths. -/
def bytesK (M : List (Key × Nd)) (ks : List Key) : Nat := (ks.map fun k => ((mget M k).getD zeroN).data.length).sum
theorem bytesK_und {M : List (Key × Nd)} (hM : MOk M) (s : ByteArray) : bytesK M (undK M s) = wtN M s (fun n => n.data.length) := by
  unfold bytesK undK wtN
  rw [List.map_map]
  congr 1
  refine List.map_congr_left fun x hx => ?_
  have hx' := (List.mem_filter.1 hx).1
  show ((mget M x.1).getD zeroN).data.length = _
  rw [mget_of_mem hM.sorted (show (x.1, x.2) ∈ M from hx')]
  rfl
theorem bytesK_succ (M : List (Key × Nd)) (ks : List Key) (k : Nat) (hk : k < ks.length) : bytesK M (ks.take (k + 1)) = bytesK M (ks.take k) + ((mget M ks[k]).getD zeroN).data.length := by
  unfold bytesK
  rw [List.take_succ_eq_append_getElem hk, List.map_append, List.sum_append]
  simp
theorem data_le {M : List (Key × Nd)} (hM : MOk M) (k : Key) : ((mget M k).getD zeroN).data.length ≤ 1048575 := by
  cases hg : mget M k with
  | none => simp [zeroN]
  | some n => exact (right_fit (hM.at hg).2).2.1
theorem bytesK_le {M : List (Key × Nd)} (hM : MOk M) (ks : List Key) : bytesK M ks ≤ ks.length * 1048575 :=
  sum_le_len ks _ _ fun k _ => data_le hM k

/-- The children's paths as the law writes them. -/
theorem child_text {M : List (Key × Nd)} (hM : MOk M) {x y : Key × Nd} (hx : x ∈ M) (hy : y ∈ M) (h : childOf y.2.path x.2 = true) :
    (y.2.path.data.toList = [47] → (⟨#[47]⟩ : ByteArray) ++ ⟨(nameK x.2).toArray⟩ = x.2.path) ∧ (¬ y.2.path.data.toList = [47] → y.2.path ++ (⟨#[47]⟩ : ByteArray) ++ ⟨(nameK x.2).toArray⟩ = x.2.path) := by
  obtain ⟨c1, c2⟩ := childOf_iff.1 h
  have p1 := (path_split (right_vpath (hM.right x hx)) c1).1
  rw [c2] at p1
  have hv := right_vpath (hM.right y hy)
  constructor
  · intro hr
    apply ba_ext
    rw [p1]
    have h1 : y.2.path.size = 1 := by rw [← size_list, hr]; rfl
    unfold preL nameK
    rw [if_pos h1, hr]
    simp [ByteArray.data_append]
  · intro hr
    apply ba_ext
    rw [p1]
    have h1 : ¬ y.2.path.size = 1 := fun e => hr ((root_iff hv).1 e)
    unfold preL nameK
    rw [if_neg h1]
    simp [ByteArray.data_append]
theorem kid_get {M : List (Key × Nd)} (hM : MOk M) {p : ByteArray} {k : Nat} (hk : k < (kidN M p).length) : (kidN M p)[k] ∈ M ∧ childOf p (kidN M p)[k].2 = true := kidN_mem.1 (List.getElem_mem hk)
/-- A node is there. -/
theorem there_of {M : List (Key × Nd)} (hM : MOk M) {x : Key × Nd} (hx : x ∈ M) : mget M x.2.path.data.toList = some x.2 := by
  have hk := hM.key x hx
  have := mget_of_mem hM.sorted (show (x.1, x.2) ∈ M from hx)
  rw [hk] at this
  exact this
end Go.Proofs.YtamolbegmkngdaaGreatDoor
namespace Go.Proofs.YtamolbegmkngdaaGreatDoor
open Go.RowKit
set_option maxHeartbeats 1000000

theorem fromL_distinct : ∀ (l : List Nd) (i : Nat) (M0 : List (Key × Nd)), MOk M0 → (∀ n ∈ l, rightN n = 0) → (l.map keyN).Nodup → (∀ n ∈ l, mget M0 (keyN n) = none) → ∃ M1, fromL l i M0 = .ok M1 ∧ MOk M1 ∧ ∀ x, x ∈ M1 ↔ x ∈ M0 ∨ ∃ n ∈ l, x = (keyN n, n)
  | [], i, M0, h0, _, _, _ => ⟨M0, rfl, h0, fun x => by simp⟩
  | n :: l, i, M0, h0, hr, hd, hn => by
    rw [List.map_cons] at hd
    obtain ⟨d1, d2⟩ := List.nodup_cons.1 hd
    have hr0 := hr n (List.mem_cons_self ..)
    have hn0 := hn n (List.mem_cons_self ..)
    have hne : ∀ m ∈ l, keyN m ≠ keyN n := fun m hm e => d1 (e ▸ List.mem_map.2 ⟨m, hm, rfl⟩)
    obtain ⟨M1, e1, e2, e3⟩ := fromL_distinct l (i + 1) (mput M0 (keyN n) n) (h0.put n hr0) (fun m hm => hr m (List.mem_cons_of_mem _ hm)) d2 (fun m hm => mget_none_of fun x hx e => by
      rcases mem_mput.1 hx with rfl | ⟨hx, _⟩
      · exact hne m hm e.symm
      · exact mget_none (hn m (List.mem_cons_of_mem _ hm)) x hx e)
    refine ⟨M1, ?_, e2, fun x => ?_⟩
    · unfold fromL
      rw [if_neg (by simpa using hr0), if_neg (by rw [hn0]; simp)]
      exact e1
    · rw [e3, mem_mput]
      constructor
      · rintro ((rfl | ⟨h, _⟩) | ⟨m, hm, rfl⟩)
        · exact .inr ⟨n, List.mem_cons_self .., rfl⟩
        · exact .inl h
        · exact .inr ⟨m, List.mem_cons_of_mem _ hm, rfl⟩
      · rintro (h | ⟨m, hm, rfl⟩)
        · exact .inl (.inr ⟨h, mget_none hn0 x h⟩)
        · rcases List.mem_cons.1 hm with rfl | hm
          · exact .inl (.inl rfl)
          · exact .inr ⟨m, hm, rfl⟩
theorem parL_ok {M : List (Key × Nd)} : ∀ (l : List Nd) (i : Nat), (∀ n ∈ l, n.path.size ≠ 1 → mget M (parentB n.path).data.toList ≠ none) → parL M l i = .ok ()
  | [], _, _ => rfl
  | n :: l, i, h => by
    unfold parL
    rw [if_neg fun hh => h n (List.mem_cons_self ..) hh.1 hh.2]
    exact parL_ok l (i + 1) fun m hm => h m (List.mem_cons_of_mem _ hm)

/-- A list with just a tree's nodes, each once. -/
theorem fromN_perm {M : List (Key × Nd)} (hM : MOk M) (hc : Clo M) (hroot : mget M [47] ≠ none) {L : List Nd} (h1 : ∀ n ∈ L, (keyN n, n) ∈ M) (h2 : ∀ x ∈ M, x.2 ∈ L) (hd : (L.map keyN).Nodup) : fromN L = .ok M := by
  obtain ⟨M1, e1, e2, e3⟩ := fromL_distinct L 0 [] MOk.nil (fun n hn => hM.right _ (h1 n hn)) hd (fun n _ => rfl)
  have he : M1 = M := mem_ext_sorted e2.sorted hM.sorted fun x => by
    rw [e3]
    constructor
    · rintro (h | ⟨n, hn, rfl⟩)
      · simp at h
      · exact h1 n hn
    · intro hx
      refine .inr ⟨x.2, h2 x hx, ?_⟩
      rw [← hM.key x hx]
  subst he
  unfold fromN
  rw [e1]
  simp only
  rw [if_neg hroot, parL_ok L 0 fun n hn hs => ?_]
  obtain ⟨y, hy, ey⟩ := hc _ (h1 n hn) hs
  rw [← ey]
  rw [there_of hM hy]
  simp

/-- The place i of the list that is turned by k: of n places. -/
def rotI (n k i : Nat) : Nat := if i + k < n then i + k else i + k - n
theorem rotI_mod {n k i : Nat} (hk : k < n) (hi : i < n) : (i + k) % n = rotI n k i := by
  unfold rotI
  split
  · rename_i h; exact Nat.mod_eq_of_lt h
  · rename_i h
    rw [Nat.mod_eq_sub_mod (by omega), Nat.mod_eq_of_lt (by omega)]
theorem rotI_lt {n k i : Nat} (hk : k < n) (hi : i < n) : rotI n k i < n := by unfold rotI; split <;> omega
theorem rotI_inj {n k i j : Nat} (hk : k < n) (hi : i < n) (hj : j < n) (h : rotI n k i = rotI n k j) : i = j := by
  unfold rotI at h
  split at h <;> split at h <;> omega
theorem rotI_onto {n k t : Nat} (hk : k < n) (ht : t < n) : ∃ i, i < n ∧ rotI n k i = t := by
  by_cases h : k ≤ t
  · exact ⟨t - k, by omega, by unfold rotI; rw [if_pos (by omega)]; omega⟩
  · exact ⟨t + n - k, by omega, by unfold rotI; rw [if_neg (by omega)]; omega⟩

/-- The list from behind, turned by k: its first j places. -/
def rotL (L : List Nd) (k : Nat) : Nat → List Nd
  | 0 => []
  | j + 1 => rotL L k j ++ [(L[rotI L.length k (L.length - 1 - j)]?).getD zeroN]
theorem rotL_length (L : List Nd) (k : Nat) : ∀ j, (rotL L k j).length = j
  | 0 => rfl
  | j + 1 => by unfold rotL; rw [List.length_append, rotL_length L k j]; rfl
theorem rotL_get (L : List Nd) (k : Nat) : ∀ (j i : Nat), i < j → (rotL L k j)[i]? = some ((L[rotI L.length k (L.length - 1 - i)]?).getD zeroN)
  | 0, i, h => by omega
  | j + 1, i, h => by
    unfold rotL
    by_cases e : i < j
    · rw [List.getElem?_append_left (by rw [rotL_length]; exact e)]
      exact rotL_get L k j i e
    · obtain rfl : i = j := by omega
      rw [List.getElem?_append_right (by rw [rotL_length]; exact Nat.le_refl _), rotL_length, Nat.sub_self]
      rfl
theorem rotL_at {L : List Nd} {k : Nat} (hk : k < L.length) {i : Nat} (hi : i < L.length) : (rotL L k L.length)[i]? = L[rotI L.length k (L.length - 1 - i)]? := by
  rw [rotL_get L k L.length i hi]
  have := rotI_lt hk (show L.length - 1 - i < L.length by omega)
  rw [List.getElem?_eq_getElem this]
  rfl

theorem rot_from {M : List (Key × Nd)} (hM : MOk M) (hc : Clo M) (hroot : mget M [47] ≠ none) {k : Nat} (hk : k < (M.map (·.2)).length) : fromN (rotL (M.map (·.2)) k (M.map (·.2)).length) = .ok M := by
  generalize hL : M.map (·.2) = L at *
  have hmem : ∀ n ∈ L, (keyN n, n) ∈ M := fun n hn => by
    rw [← hL] at hn
    obtain ⟨x, hx, rfl⟩ := List.mem_map.1 hn
    rw [← hM.key x hx]; exact hx
  have hkey : ∀ i j (hi : i < L.length) (hj : j < L.length), keyN L[i] = keyN L[j] → i = j := fun i j hi hj e => by
    subst hL
    simp only [List.length_map] at hi hj
    simp only [List.getElem_map] at e
    rw [← hM.key _ (List.getElem_mem hi), ← hM.key _ (List.getElem_mem hj)] at e
    rcases Nat.lt_trichotomy i j with h | h | h
    · have := sorted_at hM.sorted h hj
      rw [e] at this; exact (before_asymm this this).elim
    · exact h
    · have := sorted_at hM.sorted h hi
      rw [e] at this; exact (before_asymm this this).elim
  refine fromN_perm hM hc hroot (fun n hn => ?_) (fun x hx => ?_) ?_
  · obtain ⟨i, hi, ei⟩ := List.getElem_of_mem hn
    rw [rotL_length] at hi
    have h := rotL_at hk hi
    have hlt := rotI_lt hk (show L.length - 1 - i < L.length by omega)
    rw [List.getElem?_eq_getElem (by rw [rotL_length]; exact hi), ei, List.getElem?_eq_getElem hlt] at h
    rw [Option.some.inj h]
    exact hmem _ (List.getElem_mem hlt)
  · have hx' : x.2 ∈ L := by rw [← hL]; exact List.mem_map.2 ⟨x, hx, rfl⟩
    obtain ⟨t, ht, et⟩ := List.getElem_of_mem hx'
    obtain ⟨i, hi, hr⟩ := rotI_onto hk ht
    have h := rotL_at hk (show L.length - 1 - i < L.length by omega)
    rw [show L.length - 1 - (L.length - 1 - i) = i by omega, hr, List.getElem?_eq_getElem ht, et] at h
    exact List.mem_of_getElem? h
  · unfold List.Nodup
    rw [List.pairwise_map, List.pairwise_iff_getElem]
    intro i j hi hj hij
    rw [rotL_length] at hi hj
    have h1 := rotL_at hk hi
    have h2 := rotL_at hk hj
    have l1 := rotI_lt hk (show L.length - 1 - i < L.length by omega)
    have l2 := rotI_lt hk (show L.length - 1 - j < L.length by omega)
    rw [List.getElem?_eq_getElem (by rw [rotL_length]; exact hi), List.getElem?_eq_getElem l1] at h1
    rw [List.getElem?_eq_getElem (by rw [rotL_length]; exact hj), List.getElem?_eq_getElem l2] at h2
    rw [Option.some.inj h1, Option.some.inj h2]
    intro e
    have := rotI_inj hk (show L.length - 1 - i < L.length by omega) (show L.length - 1 - j < L.length by omega) (hkey _ _ l1 l2 e)
    omega

/-- Everything is under the root. -/
theorem und_root {M : List (Key × Nd)} (hM : MOk M) (hc : Clo M) : ∀ (f : Nat) (x : Key × Nd), x ∈ M → x.2.path.size ≤ f → und x.2.path ⟨#[47]⟩ = true
  | 0, x, hx, hf => by have := hM.pos hx; omega
  | f + 1, x, hx, hf => by
    by_cases h1 : x.2.path.size = 1
    · rw [und_one hM hx h1]
      have := (root_iff (right_vpath (hM.right x hx))).1 h1
      rw [show x.2.path = ⟨#[47]⟩ from ba_ext this]
      rfl
    · obtain ⟨y, hy, ey⟩ := hc x hx h1
      have hs := (path_split (right_vpath (hM.right x hx)) h1).2.2.1
      rw [und_up hM hc hx hy h1 ey, und_root hM hc f y hy (by rw [ey]; omega), Bool.or_true]
theorem undK_root {M : List (Key × Nd)} (hM : MOk M) (hc : Clo M) : (undK M ⟨#[47]⟩).length = M.length := by
  unfold undK
  rw [List.length_map, List.filter_eq_self.2 fun x hx => und_root hM hc _ x hx (Nat.le_refl _)]
end Go.Proofs.YtamolbegmkngdaaGreatDoor
namespace Go.Proofs.YtamolbegmkngdaaGreatDoor
open Go.RowKit Go.Sort
set_option maxHeartbeats 2000000

theorem fromL_count : ∀ (l : List Nd) (i : Nat) (M0 M : List (Key × Nd)), fromL l i M0 = .ok M → M.length = M0.length + l.length
  | [], i, M0, M, h => by
    simp only [fromL, Except.ok.injEq] at h
    subst h; rfl
  | n :: l, i, M0, M, h => by
    unfold fromL at h
    split at h
    · cases h
    split at h
    · cases h
    rename_i hn
    have h1 := fromL_count l _ _ _ h
    have hn' : mget M0 (keyN n) = none := by
      cases hg : mget M0 (keyN n) with
      | none => rfl
      | some y => rw [hg] at hn; simp at hn
    have h2 : (mput M0 (keyN n) n).length = M0.length + 1 := by
      unfold mput
      rw [mins_length]
      have : mdel M0 (keyN n) = M0 := by
        unfold mdel
        exact List.filter_eq_self.2 fun x hx => by simpa using mget_none hn' x hx
      rw [this]
    rw [h1, h2, List.length_cons]; omega
theorem fromN_count {L : List Nd} {M : List (Key × Nd)} (h : fromN L = .ok M) : M.length = L.length := by
  unfold fromN at h
  cases hf : fromL L 0 [] with
  | error e => rw [hf] at h; cases h
  | ok M1 =>
    rw [hf] at h
    simp only at h
    split at h
    · cases h
    cases hp : parL M1 L 0 with
    | error e => rw [hp] at h; cases h
    | ok u =>
      rw [hp] at h
      simp only [Except.ok.injEq] at h
      subst h
      have := fromL_count L 0 [] _ hf
      simpa using this
theorem fromN_rootE {L : List Nd} {M : List (Key × Nd)} (h : fromN L = .ok M) : mget M [47] ≠ none := by
  unfold fromN at h
  cases hf : fromL L 0 [] with
  | error e => rw [hf] at h; cases h
  | ok M1 =>
    rw [hf] at h
    simp only at h
    split at h
    · cases h
    rename_i hr
    cases hp : parL M1 L 0 with
    | error e => rw [hp] at h; cases h
    | ok u =>
      rw [hp] at h
      simp only [Except.ok.injEq] at h
      subst h
      exact hr

theorem fromL_mok : ∀ (l : List Nd) (i : Nat) (M0 M : List (Key × Nd)), MOk M0 → fromL l i M0 = .ok M → MOk M
  | [], i, M0, M, h0, h => by
    simp only [fromL, Except.ok.injEq] at h
    subst h; exact h0
  | n :: l, i, M0, M, h0, h => by
    unfold fromL at h
    split at h
    · cases h
    rename_i hr
    split at h
    · cases h
    exact fromL_mok l _ _ _ (h0.put n (by simpa using hr)) h
theorem fromN_mok {L : List Nd} {M : List (Key × Nd)} (h : fromN L = .ok M) : MOk M := by
  unfold fromN at h
  cases hf : fromL L 0 [] with
  | error e => rw [hf] at h; cases h
  | ok M1 =>
    rw [hf] at h
    simp only at h
    split at h
    · cases h
    cases hp : parL M1 L 0 with
    | error e => rw [hp] at h; cases h
    | ok u =>
      rw [hp] at h
      simp only [Except.ok.injEq] at h
      subst h
      exact fromL_mok L 0 [] _ MOk.nil hf
end Go.Proofs.YtamolbegmkngdaaGreatDoor
namespace Go.Proofs.YtamolbegmkngdaaGreatDoor
open Go.RowKit Go.Sort
set_option maxHeartbeats 4000000
set_option maxRecDepth 100000

/-- A tree's number is what its nodes' numbers come to. -/
def numN (L : List Nd) : Int := match fromN L with | .error _ => 0 | .ok M => addN 0 (nds M)
theorem numN_in (L : List Nd) : 0 ≤ numN L ∧ numN L < 18446744073709551616 := by
  unfold numN
  split
  · omega
  · exact addN_in _ 0 (by omega) (by omega)

def FromRun (v : Int) (w : World) (e : Ending) (w' : World) : Prop :=
  ∃ tv i x, e = .returned (.tuple #[tv, .int .i64 i, .int .i64 x]) ∧ Ext w w' ∧ ∀ W, Ext w' W → Calls Tryz.prog 33 #[tv] W (BeginOut v W)
def RFromRun (v : Int) (w : World) (e : Ending) (w' : World) : Prop :=
  ∃ tv i x, e = .returned (.tuple #[tv, .int .i64 i, .int .i64 x]) ∧ Ext w w' ∧ ∀ W, Ext w' W → Calls Tryz.prog 15 #[tv] W fun e W' => e = .returned (.int .u64 v) ∧ Ext W W'

theorem from_run (L : List Nd) (a : Option Addr) (c : Nat) (w : World) (hT : Tabs w) (hL : NdsAt w.heap.size w a L) (hf : ∀ n ∈ L, Fit n) (hl : L.length * 168 ≤ 140737488355328) : Calls Tryz.prog 12 #[.slice a L.length c] w (FromRun (numN L) w) := by
  refine (from_any L a c w hT hL hf (by omega)).mono fun e w1 h => ?_
  unfold FromOut at h
  unfold FromRun numN
  cases hfr : fromN L with
  | error x =>
    obtain ⟨i, x⟩ := x
    rw [hfr] at h
    obtain ⟨rfl, hE⟩ := h
    exact ⟨_, _, _, rfl, hE, fun W _ => begin_nil W⟩
  | ok M =>
    rw [hfr] at h
    obtain ⟨bt, rfl, hTr, hE⟩ := h
    have hML := hTr.len
    exact ⟨_, _, _, rfl, hE, fun W hW => begin_any _ W bt M _ (hTr.ext hW) (hT.below (hE.trans hW) hT.size) (by omega)⟩
theorem rfrom_run (L : List Nd) (a : Option Addr) (c : Nat) (w : World) (hT : Tabs w) (hL : NdsAt w.heap.size w a L) (hf : ∀ n ∈ L, Fit n) (hl : L.length * 168 ≤ 140737488355328) : Calls Tryz.prog 13 #[.slice a L.length c] w (RFromRun (numN L) w) := by
  refine (rfrom_any L a c w hT hL hf hl).mono fun e w1 h => ?_
  unfold RFromOut at h
  unfold RFromRun numN
  cases hfr : fromN L with
  | error x =>
    obtain ⟨i, x⟩ := x
    rw [hfr] at h
    obtain ⟨rfl, hE⟩ := h
    exact ⟨_, _, _, rfl, hE, fun W _ => (r9of_nil W).mono fun e W' ⟨h1, h2⟩ => ⟨h1, h2 ▸ Ext.refl _⟩⟩
  | ok M =>
    rw [hfr] at h
    obtain ⟨br, rfl, hbr, hR, hE⟩ := h
    have hfit : ∀ n ∈ nds M, Fit n := by
      have hok := fromN_mok hfr
      exact nds_fit hok
    exact ⟨_, _, _, rfl, hE, fun W hW => r9of_any W br (nds M) (hR.ext hW) hfit (hT.below (hE.trans hW) hT.size)⟩

/-- Turned by the second for the first, and back. -/
theorem runs_law (d : Int) (h0 : 0 ≤ d) (h1 : d < 18446744073709551616) (A B : List Nd) : IntKind.u64.wrap (IntKind.u64.wrap (d - addN 0 A) + addN 0 B) = addN (subN d A) B ∧ addN (subN (addN (subN d A) B) B) A = d := by
  have a2 := subN_in A d h0 h1
  have a3 := addN_in B _ a2.1 a2.2
  have a4 := subN_in B _ a3.1 a3.2
  have e1 := addN_mod B _ a2.1 a2.2
  have e2 := subN_mod A d h0 h1
  have e3 := subN_mod B _ a3.1 a3.2
  have e4 := addN_mod A _ a4.1 a4.2
  have e5 := addN_mod A 0 (by omega) (by omega)
  have e6 := addN_mod B 0 (by omega) (by omega)
  rw [u64_wrap, u64_wrap]
  constructor <;> omega

theorem runs_walk (L : List Nd) (a : Option Addr) (c : Nat) (A B : List Int) (ia ib : Option Addr) (ic jc : Nat) (w : World) (hT : Tabs w) (hL : NdsAt w.heap.size w a L) (hf : ∀ n ∈ L, Fit n) (hl : L.length * 168 ≤ 140737488355328)
    (hA : Cells w.heap.size w ia (A.map (Value.int .i64 ·))) (hB : Cells w.heap.size w ib (B.map (Value.int .i64 ·))) (hlA : A.length * 168 ≤ 140737488355328) (hlB : B.length * 168 ≤ 140737488355328) :
    Calls Tryz.prog 7 #[.slice a L.length c, .slice ia A.length ic, .slice ib B.length jc] w fun e w' => e = .returned (.bool true) ∧ Below w.heap.size w w' := by
  have hsz := hT.size
  have hnum := numN_in L
  have C1 := Lib.hid (alive9_any w hT)
  have HL := Lib.hid hL
  have HF := Lib.hid hf
  have HA := Lib.hid hA
  have HB := Lib.hid hB
  have HT := Lib.hid hT
  clear hL hf hT hA hB
  obtain ⟨la, hla⟩ : ∃ la, la = A.length := ⟨_, rfl⟩
  obtain ⟨lb, hlb⟩ : ∃ lb, lb = B.length := ⟨_, rfl⟩
  go_enter Tryz.func7, Tryz.ntmps7
  go_wp2_with fail
  refine C1.out.mono ?_
  rintro e W1 ⟨rfl, hE1⟩
  have C2 := Lib.hid (from_run L a c W1 (HT.out.below hE1 hsz) (HL.out.ext hE1) HF.out hl)
  have HE1 := Lib.hid hE1
  clear hE1 C1
  go_wp2_with fail
  refine C2.out.mono ?_
  rintro e W2 ⟨tv, i1, x1, rfl, hE2, hBg⟩
  have hE2 : Ext W1 W2 := hE2
  have hE12 := HE1.out.trans hE2
  have C3 := Lib.hid (rfrom_run L a c W2 (HT.out.below hE12 hsz) (HL.out.ext hE12) HF.out hl)
  have HE2 := Lib.hid hE12
  have HBG := Lib.hid hBg
  clear hE2 C2 hE12 hBg
  go_wp2_with fail
  refine C3.out.mono ?_
  rintro e W3 ⟨rv, i2, x2, rfl, hE3, hOf⟩
  have hE3 : Ext W2 W3 := hE3
  have hE13 := HE2.out.trans hE3
  have C4 := Lib.hid (HBG.out W3 hE3)
  have HE3 := Lib.hid hE13
  have HOF := Lib.hid hOf
  clear hE3 C3 hE13 hOf HBG
  go_wp2_with fail
  refine C4.out.mono ?_
  rintro e W4 ⟨br, rfl, hbr, hR4, hE4⟩
  have hE4 : Ext W3 W4 := hE4
  have hbr : W3.heap.size ≤ br := hbr
  have hR4 : RunAt W4 br (numN L) := hR4
  have C5 := Lib.hid (HOF.out W4 hE4)
  have HE4 := Lib.hid (HE3.out.trans hE4)
  have HE34 := Lib.hid hE4
  have HR4 := Lib.hid hR4
  clear hE4 C4 hR4
  generalize hv : numN L = v at *
  go_wp2_with fail
  refine C5.out.mono ?_
  rintro e W5 ⟨rfl, hE5⟩
  have hE5 : Ext W4 W5 := hE5
  have hR5 : RunAt W5 br v := (hE5.block br (Array.getElem?_eq_some_iff.1 HR4.out).1).trans HR4.out
  have C6 := Lib.hid (value_any br v W5 hR5)
  have HE5 := Lib.hid (HE4.out.trans hE5)
  have HE35 := Lib.hid (HE34.out.trans hE5)
  have HR5 := Lib.hid hR5
  clear hE5 C5 hR5 HR4
  go_wp2_with fail
  refine C6.out.mono ?_
  rintro e W5' ⟨rfl, rfl⟩
  have C7 := Lib.hid (dlist_any w.heap.size L a c A ia ic W5 (HL.out.below HE5.out) HE5.out.size ((HA.out.below HE5.out).mono HE5.out.size) (by omega) hlA)
  clear C6
  go_wp2_with fail
  refine C7.out.mono ?_
  rintro e W6 ⟨pa, pc, vs, rfl, hP, hE6⟩
  have hE6 : Ext W5 W6 := hE6
  have hE16 := HE5.out.trans hE6
  have C8 := Lib.hid (dlist_any w.heap.size L a c B ib jc W6 (HL.out.below hE16) hE16.size ((HB.out.below hE16).mono hE16.size) (by omega) hlB)
  have hfP : ∀ n ∈ (if L = [] then [] else pickL L A), Fit n := pickL_fit L A HF.out
  have hfQ : ∀ n ∈ (if L = [] then [] else pickL L B), Fit n := pickL_fit L B HF.out
  have hlP : (if L = [] then [] else pickL L A).length ≤ A.length := pickL_len L A
  have hlQ : (if L = [] then [] else pickL L B).length ≤ B.length := pickL_len L B
  generalize (if L = [] then [] else pickL L A) = P at *
  generalize (if L = [] then [] else pickL L B) = Q at *
  have hbr5 := (Array.getElem?_eq_some_iff.1 HR5.out).1
  have hz13 := HE3.out.size
  have hz56 := hE6.size
  have HP := Lib.hid hP
  have HE6 := Lib.hid hE6
  have HFP := Lib.hid hfP
  have HFQ := Lib.hid hfQ
  clear C7 hP hE6 hE16 hfP hfQ
  go_wp2_with fail
  refine C8.out.mono ?_
  rintro e W7 ⟨qa, qc, vs', rfl, hQ, hE7⟩
  have hE7 : Ext W6 W7 := hE7
  have hE57 := HE6.out.trans hE7
  have hE17 := HE5.out.trans hE57
  have hz67 := hE7.size
  have hR7 : RunAt W7 br v := (hE57.block br hbr5).trans HR5.out
  have hSP : NdsS (fun k => k < W7.heap.size ∧ k ≠ br) W7 pa P := HP.out.ndsS.imp (fun k hk => by have hk : k < w.heap.size ∨ (W5.heap.size ≤ k ∧ k < W6.heap.size) := hk; omega) fun k hk => hE7.block k (by have hk : k < w.heap.size ∨ (W5.heap.size ≤ k ∧ k < W6.heap.size) := hk; omega)
  have hSQ : NdsS (fun k => k < W7.heap.size ∧ k ≠ br) W7 qa Q := hQ.ndsS.imp (fun k hk => by have hk : k < w.heap.size ∨ (W6.heap.size ≤ k ∧ k < W7.heap.size) := hk; omega) fun k hk => rfl
  have hT7 : Tabs W7 := HT.out.below hE17 hsz
  have CT := Lib.hid (turn_any_s (fun k => k < W7.heap.size ∧ k ≠ br) br v P Q pa qa pc qc W7 hR7 hT7 hSP hSQ HFP.out HFQ.out (by omega) (fun k hk => ⟨hk.2, hk.1⟩) (by omega) (by omega))
  have hB37 : Below W3.heap.size W3 W7 := HE35.out.trans hE57
  have HB37 := Lib.hid hB37
  have HSP := Lib.hid hSP
  have HSQ := Lib.hid hSQ
  have HT7 := Lib.hid hT7
  have HE17 := Lib.hid hE17
  clear C8 HP hQ hE7 hE57 hE17 hR7 hSP hSQ hT7 hB37 HR5 HE35
  go_wp2_with fail
  refine CT.out.mono ?_
  rintro e W8 ⟨rfl, hR8, hU8⟩
  have hU8 : But br W7 W8 := hU8
  have hR8 : RunAt W8 br (addN (subN v P) Q) := hR8
  have hz78 := hU8.size
  have hE18 : Below w.heap.size w W8 := Below.trans HE17.out (hU8.below (by omega) (by omega))
  have hsP8 : NdsS (fun k => k < W8.heap.size ∧ k ≠ br) W8 pa P := HSP.out.imp (fun k hk => ⟨by omega, hk.2⟩) fun k hk => hU8.same k hk.1 hk.2
  have hsQ8 : NdsS (fun k => k < W8.heap.size ∧ k ≠ br) W8 qa Q := HSQ.out.imp (fun k hk => ⟨by omega, hk.2⟩) fun k hk => hU8.same k hk.1 hk.2
  have CS1 := Lib.hid (dsum_any P pa pc W8 (hsP8.nds fun k hk => hk.1) HFP.out (HT.out.below hE18 hsz) (by omega))
  have HR8 := Lib.hid hR8
  have HU8 := Lib.hid hU8
  have HE18 := Lib.hid hE18
  have HP8 := Lib.hid hsP8
  have HQ8 := Lib.hid hsQ8
  have hrl := runs_law v hnum.1 hnum.2 P Q
  have HRL := Lib.hid hrl
  have hbr8 := (Array.getElem?_eq_some_iff.1 hR8).1
  clear CT HSP HSQ hR8 hU8 hE18 hsP8 hsQ8 hrl
  go_wp2_with fail
  refine CS1.out.mono ?_
  rintro e W9 ⟨rfl, hE9⟩
  have hE9 : Ext W8 W9 := hE9
  have hz89 := hE9.size
  have hE19 := HE18.out.trans (hE9.mono HE18.out.size)
  have hsQ9 : NdsS (fun k => k < W9.heap.size ∧ k ≠ br) W9 qa Q := HQ8.out.imp (fun k hk => ⟨by omega, hk.2⟩) fun k hk => hE9.block k hk.1
  have CS2 := Lib.hid (dsum_any Q qa qc W9 (hsQ9.nds fun k hk => hk.1) HFQ.out (HT.out.below hE19 hsz) (by omega))
  have HE9 := Lib.hid hE9
  have HE19 := Lib.hid hE19
  clear CS1 hE9 hE19 hsQ9
  go_wp2_with fail
  refine CS2.out.mono ?_
  rintro e W10 ⟨rfl, hE10⟩
  have hE10 : Ext W9 W10 := hE10
  have hE810 := HE9.out.trans hE10
  have hR10 : RunAt W10 br (addN (subN v P) Q) := (hE810.block br hbr8).trans HR8.out
  have CV := Lib.hid (value_any br _ W10 hR10)
  have HE10 := Lib.hid hE810
  have HR10 := Lib.hid hR10
  clear CS2 hE10 hE810 hR10 HR8
  go_wp2_with fail
  refine CV.out.mono ?_
  rintro e W10' ⟨rfl, rfl⟩
  have hwr := HRL.out.1
  have hback := HRL.out.2
  rw [hwr]
  clear hwr HRL
  generalize addN (subN v P) Q = v2 at *
  have HBACK := Lib.hid hback
  clear hback
  have hE110 := HE18.out.trans (HE10.out.mono HE18.out.size)
  have hz810 := HE10.out.size
  have hsP10 : NdsS (fun k => k < W10.heap.size ∧ k ≠ br) W10 pa P := HP8.out.imp (fun k hk => ⟨by omega, hk.2⟩) fun k hk => HE10.out.block k hk.1
  have hsQ10 : NdsS (fun k => k < W10.heap.size ∧ k ≠ br) W10 qa Q := HQ8.out.imp (fun k hk => ⟨by omega, hk.2⟩) fun k hk => HE10.out.block k hk.1
  have CT2 := turn_any_s (fun k => k < W10.heap.size ∧ k ≠ br) br v2 Q P qa pa qc pc W10 HR10.out (HT.out.below hE110 hsz) hsQ10 hsP10 HFQ.out HFP.out (by omega) (fun k hk => ⟨hk.2, hk.1⟩) (by omega) (by omega)
  rw [HBACK.out] at CT2
  have CT2 := Lib.hid CT2
  have HE110 := Lib.hid hE110
  clear CV hE110 hsP10 hsQ10 HP8 HQ8 HBACK
  go_wp2_with fail
  refine CT2.out.mono ?_
  rintro e W11 ⟨rfl, hR11, hU11⟩
  have hU11 : But br W10 W11 := hU11
  have hR11 : RunAt W11 br v := hR11
  have hz1011 := hU11.size
  have hE111 : Below w.heap.size w W11 := HE110.out.trans (hU11.below (by omega) (by omega))
  have hB3 : Below W3.heap.size W3 W11 := Below.trans HB37.out ((HU8.out.below hbr (by omega)).trans ((HE10.out.mono (by omega)).trans (hU11.below hbr (by omega))))
  have CN := Lib.hid (turn_nil pa qa P.length Q.length pc qc W11)
  have CV2 := Lib.hid (value_any br v W11 hR11)
  have CO := Lib.hid (HOF.out W11 hB3)
  have HE111 := Lib.hid hE111
  clear CT2 hR11 hU11 hE111 hB3 HB37 HU8 HE10 HR10 HOF
  go_wp2_with fail
  refine CN.out.mono ?_
  rintro e W11' ⟨rfl, rfl⟩
  go_wp2_with fail
  refine CV2.out.mono ?_
  rintro e W11' ⟨rfl, rfl⟩
  go_wp2_with fail
  refine CO.out.mono ?_
  rintro e W12 ⟨rfl, hE12⟩
  have hE12 : Ext W11 W12 := hE12
  have CV3 := Lib.hid (value_nil W12)
  have HE12 := Lib.hid (HE111.out.trans (hE12.mono HE111.out.size))
  clear hE12 CO
  go_wp2_with fail
  refine CV3.out.mono ?_
  rintro e W12' ⟨rfl, rfl⟩
  go_wp2
  go_ret
  exact ⟨rfl, HE12.out⟩
end Go.Proofs.YtamolbegmkngdaaGreatDoor
