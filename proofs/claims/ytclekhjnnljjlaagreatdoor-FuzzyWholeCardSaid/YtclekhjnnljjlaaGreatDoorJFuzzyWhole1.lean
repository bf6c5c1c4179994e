/- Plain laws on characters and paths: which bytes are a path. No program in sight. Plain laws on memory: cells that a slice shows; an append from whatever source to a row of the call's own. The walks of package runes: the kind of a character; the first one that no path may have. The walks of the writer: bytes behind bytes. The walks of the writer, more: numbers, texts, lists. The walks of the three clones of slices. The walks of package paths up to Valid: whether a text is a path. Plain laws: a character read by hand, as the document's reference reads it, is the model's decoding. Plain laws: texts that are UTF-8, as the reference looks at them byte by byte. The walks of stat.Right and of its reference: may a node be. -/
import Derived.Laws.RangeAny
import Derived.RowKit
import Derived.WalkKit
import Derived.WalkSpells
import Derived.Deep.AppendSrc
import Derived.Lib.Hide
import Derived.Test.YtclekhjnnljjlaaGreatDoorShelf
import Derived.WalkLawsBesides
import Derived.Deep.Light
import Derived.Lib.IndexLaws
import Derived.Deep.QuietTactic
import Derived.BigQuiet
import Derived.Lib.ValidLaws
namespace Go.Proofs.YtclekhjnnljjlaaGreatDoor
open Go.RowKit

/-- A character that a path may have. -/
def pl (r : Nat) : Bool := (32 ≤ r && r ≤ 126) || (160 ≤ r && r < 55296) || (63744 ≤ r && r < 65520)

/-- The byte at a place, 0 behind the end. -/
def bat (s : ByteArray) (i : Nat) : Nat := (s.get! i).toNat

theorem bat_lt (s : ByteArray) (i : Nat) : bat s i < 256 := UInt8.toNat_lt _

theorem bat_get (s : ByteArray) (i : Nat) (h : i < s.size) : bat s i = (s[i]'h).toNat := by
  have := Go.get_at s i h; simp only [Nat.add_zero] at this; unfold bat; rw [this]

theorem bat_out (s : ByteArray) (i : Nat) (h : s.size ≤ i) : bat s i = 0 := by
  have e : s.get! i = default := by
    cases s with | mk a => exact getElem!_neg a i (by simpa [ByteArray.size] using h)
  unfold bat; rw [e]; rfl

theorem dec_eq (s : ByteArray) (i : Nat) : Utf8.decode s i =
  let cont (k : Nat) : Bool := i + k < s.size && bat s (i + k) / 64 == 2
  if bat s i < 0x80 then (bat s i, 1)
  else if bat s i / 32 == 6 && cont 1 then
    let c := (bat s i % 32) * 64 + bat s (i + 1) % 64
    if c ≥ 0x80 then (c, 2) else (65533, 1)
  else if bat s i / 16 == 14 && cont 1 && cont 2 then
    let c := (bat s i % 16) * 4096 + (bat s (i + 1) % 64) * 64 + bat s (i + 2) % 64
    if c ≥ 0x800 && Utf8.valid c then (c, 3) else (65533, 1)
  else if bat s i / 8 == 30 && cont 1 && cont 2 && cont 3 then
    let c := (bat s i % 8) * 262144 + (bat s (i + 1) % 64) * 4096 + (bat s (i + 2) % 64) * 64 + bat s (i + 3) % 64
    if c ≥ 0x10000 && Utf8.valid c then (c, 4) else (65533, 1)
  else (65533, 1) := rfl

/-- What a decoding says of its place. -/
structure Dec (s : ByteArray) (p : Nat) : Prop where
  pos : 1 ≤ (Utf8.decode s p).2
  fits : p + (Utf8.decode s p).2 ≤ s.size
  tail : ∀ k, 0 < k → k < (Utf8.decode s p).2 → 128 ≤ bat s (p + k)
  one : (Utf8.decode s p).2 = 1 → (Utf8.decode s p).1 ≠ 65533 → (Utf8.decode s p).1 = bat s p ∧ bat s p < 128
  more : (Utf8.decode s p).2 ≠ 1 → 128 ≤ (Utf8.decode s p).1 ∧ 128 ≤ bat s p
  ascii : bat s p < 128 → Utf8.decode s p = (bat s p, 1)

theorem dec (s : ByteArray) (p : Nat) (h : p < s.size) : Dec s p := by
  have e := dec_eq s p
  simp only [] at e
  have asc : bat s p < 128 → Utf8.decode s p = (bat s p, 1) := fun h => by rw [e, if_pos h]
  by_cases h0 : bat s p < 128
  · have := asc h0
    exact ⟨by rw [this]; simp, by rw [this]; simp; omega, by rw [this]; intro k h1 h2; simp at h2; omega, by rw [this]; simp [h0], by rw [this]; simp, asc⟩
  · rw [if_neg h0] at e
    have b1 := bat_lt s (p+1); have b2 := bat_lt s (p+2); have b3 := bat_lt s (p+3); have b0 := bat_lt s p
    split at e
    · rename_i h1
      simp only [Bool.and_eq_true, beq_iff_eq, decide_eq_true_eq] at h1
      split at e <;> (refine ⟨by rw [e]; simp, by rw [e]; simp; omega, ?_, by rw [e]; simp, by rw [e]; simp; try omega, asc⟩; rw [e]; intro k k1 k2; simp at k2; try omega)
      · obtain rfl : k = 1 := by omega
        omega
    · split at e
      · rename_i h1
        simp only [Bool.and_eq_true, beq_iff_eq, decide_eq_true_eq] at h1
        split at e
        · rename_i h2
          simp only [Bool.and_eq_true, decide_eq_true_eq] at h2
          refine ⟨by rw [e]; simp, by rw [e]; simp; omega, ?_, by rw [e]; simp, by rw [e]; simp; omega, asc⟩
          rw [e]; intro k k1 k2; simp at k2
          rcases (by omega : k = 1 ∨ k = 2) with rfl | rfl <;> omega
        · refine ⟨by rw [e]; simp, by rw [e]; simp; omega, ?_, by rw [e]; simp, by rw [e]; simp, asc⟩
          rw [e]; intro k k1 k2; simp at k2; omega
      · split at e
        · rename_i h1
          simp only [Bool.and_eq_true, beq_iff_eq, decide_eq_true_eq] at h1
          split at e
          · rename_i h2
            simp only [Bool.and_eq_true, decide_eq_true_eq] at h2
            refine ⟨by rw [e]; simp, by rw [e]; simp; omega, ?_, by rw [e]; simp, by rw [e]; simp; omega, asc⟩
            rw [e]; intro k k1 k2; simp at k2
            rcases (by omega : k = 1 ∨ k = 2 ∨ k = 3) with rfl | rfl | rfl <;> omega
          · refine ⟨by rw [e]; simp, by rw [e]; simp; omega, ?_, by rw [e]; simp, by rw [e]; simp, asc⟩
            rw [e]; intro k k1 k2; simp at k2; omega
        · refine ⟨by rw [e]; simp, by rw [e]; simp; omega, ?_, by rw [e]; simp, by rw [e]; simp, asc⟩
          rw [e]; intro k k1 k2; simp at k2; omega

/-- The first character, from a place on, that no path may have; -1: none. -/
def fb (s : ByteArray) : Nat → Nat → Int
  | 0, _ => -1
  | f + 1, p => if p < s.size then (if pl (Utf8.decode s p).1 then fb s f (p + (Utf8.decode s p).2) else p) else -1

/-- The part that begins at a place. -/
def partL (s : ByteArray) (p : Nat) : List UInt8 := (s.data.toList.drop p).takeWhile (· != 47)

/-- The part that begins at a place is one or two dots. -/
def dots (s : ByteArray) (p : Nat) : Bool := partL s p == [46] || partL s p == [46, 46]

/-- What must be so at a slash. -/
def sep (s : ByteArray) (p : Nat) : Bool := bat s p != 47 || (!(0 < p && bat s (p - 1) == 47) && !dots s (p + 1))

/-- From a place on all characters are good, and all slashes. -/
def scan (s : ByteArray) : Nat → Nat → Bool
  | 0, _ => true
  | f + 1, p => if p < s.size then pl (Utf8.decode s p).1 && sep s p && scan s f (p + (Utf8.decode s p).2) else true

/-- A path. -/
def vpath (s : ByteArray) : Bool :=
  s.size != 0 && s.size ≤ 4096 && bat s 0 == 47 && (s.size == 1 || (bat s (s.size - 1) != 47 && scan s s.size 0))

/-- fuel does not matter -/
theorem scan_fuel (s : ByteArray) : ∀ (f g p : Nat), s.size ≤ p + f → s.size ≤ p + g → scan s f p = scan s g p
  | 0, 0, p, _, _ => rfl
  | 0, g + 1, p, hf, _ => by
    have : ¬ p < s.size := by omega
    simp only [scan, if_neg this]
  | f + 1, 0, p, _, hg => by
    have : ¬ p < s.size := by omega
    simp only [scan, if_neg this]
  | f + 1, g + 1, p, hf, hg => by
    simp only [scan]
    by_cases hp : p < s.size
    · have d := (dec s p hp).pos
      rw [if_pos hp, if_pos hp, scan_fuel s f g _ (by omega) (by omega)]
    · rw [if_neg hp, if_neg hp]

theorem fb_fuel (s : ByteArray) : ∀ (f g p : Nat), s.size ≤ p + f → s.size ≤ p + g → fb s f p = fb s g p
  | 0, 0, p, _, _ => rfl
  | 0, g + 1, p, hf, _ => by
    have : ¬ p < s.size := by omega
    simp only [fb, if_neg this]
  | f + 1, 0, p, _, hg => by
    have : ¬ p < s.size := by omega
    simp only [fb, if_neg this]
  | f + 1, g + 1, p, hf, hg => by
    simp only [fb]
    by_cases hp : p < s.size
    · have d := (dec s p hp).pos
      rw [if_pos hp, if_pos hp, fb_fuel s f g _ (by omega) (by omega)]
    · rw [if_neg hp, if_neg hp]

/-- The scan from a place on, with fuel enough. -/
def scanAt (s : ByteArray) (p : Nat) : Bool := scan s s.size p
def fbAt (s : ByteArray) (p : Nat) : Int := fb s s.size p

theorem scanAt_step (s : ByteArray) (p : Nat) (h : p < s.size) : scanAt s p = (pl (Utf8.decode s p).1 && sep s p && scanAt s (p + (Utf8.decode s p).2)) := by
  have d := (dec s p h).pos
  unfold scanAt
  rw [scan_fuel s s.size (s.size + 1) p (by omega) (by omega)]
  simp only [scan, if_pos h]
theorem scanAt_end (s : ByteArray) (p : Nat) (h : s.size ≤ p) : scanAt s p = true := by
  unfold scanAt
  rw [scan_fuel s s.size 0 p (by omega) (by omega)]; rfl
theorem fbAt_step (s : ByteArray) (p : Nat) (h : p < s.size) : fbAt s p = if pl (Utf8.decode s p).1 then fbAt s (p + (Utf8.decode s p).2) else p := by
  have d := (dec s p h).pos
  unfold fbAt
  rw [fb_fuel s s.size (s.size + 1) p (by omega) (by omega)]
  simp only [fb, if_pos h]
theorem fbAt_end (s : ByteArray) (p : Nat) (h : s.size ≤ p) : fbAt s p = -1 := by
  unfold fbAt
  rw [fb_fuel s s.size 0 p (by omega) (by omega)]; rfl
theorem fbAt_ge (s : ByteArray) (p : Nat) : fbAt s p = -1 ∨ (p : Int) ≤ fbAt s p := by
  generalize hn : s.size - p = n
  induction n using Nat.strongRecOn generalizing p with
  | ind n ih =>
    by_cases h : p < s.size
    · rw [fbAt_step s p h]
      have d := (dec s p h).pos
      split
      · rcases ih (s.size - (p + (Utf8.decode s p).2)) (by omega) _ rfl with h1 | h1
        · exact .inl h1
        · right; omega
      · right; omega
    · left; exact fbAt_end s p (by omega)
end Go.Proofs.YtclekhjnnljjlaaGreatDoor
namespace Go.Proofs.YtclekhjnnljjlaaGreatDoor
open Go.RowKit

def u8v (b : UInt8) : Value := .int .u8 b.toNat

/-- The cells that a slice shows, all below a block number. -/
def Cells (B : Nat) (w : World) (a : Option Addr) (xs : List Value) : Prop :=
  ∀ j u, xs[j]? = some u → ∃ b off, a = some ⟨b, off, none⟩ ∧ b < B ∧ w.cell? ⟨b, off + j, none⟩ = some u

theorem Cells.nil (B : Nat) (w : World) (a : Option Addr) : Cells B w a [] := fun j u h => by simp at h
theorem Cells.below {B : Nat} {w w' : World} {a : Option Addr} {xs : List Value} (h : Cells B w a xs) (hb : Below B w w') : Cells B w' a xs := fun j u hj => by
  obtain ⟨b, off, ha, hlt, hc⟩ := h j u hj
  exact ⟨b, off, ha, hlt, (hb.cell (p := ⟨b, off + j, none⟩) hlt).trans hc⟩
theorem Cells.mono {B B' : Nat} {w : World} {a : Option Addr} {xs : List Value} (h : Cells B w a xs) (hB : B ≤ B') : Cells B' w a xs := fun j u hj => by
  obtain ⟨b, off, ha, hlt, hc⟩ := h j u hj
  exact ⟨b, off, ha, by omega, hc⟩
theorem Cells.at {B : Nat} {w : World} {a : Option Addr} {xs : List Value} (h : Cells B w a xs) (j : Nat) (hj : j < xs.length) : ∃ b off, a = some ⟨b, off, none⟩ ∧ b < B ∧ w.cell? ⟨b, off + j, none⟩ = some xs[j] :=
  h j xs[j] (List.getElem?_eq_getElem hj)

theorem Cells.src {P : Program} {size : Nat} {tx e' : TypeId} (hk : P.underlying tx = some (.slice e')) {B : Nat} {w : World} {a : Option Addr} (n c : Nat) {xs : List Value} (h : Cells B w a xs)
    (hl : xs.length = n * size) (h1 : ∀ u ∈ xs, u.oneCell' = true) : Src P size tx (.slice a n c) n xs w := by
  cases a with
  | some p =>
    refine Src.ofSlice w hk p n c xs hl (fun j u hj => ?_) h1
    obtain ⟨b, off, ha, _, hc⟩ := h j u hj
    obtain rfl : p = ⟨b, off, none⟩ := Option.some.inj ha
    rw [show (⟨b, off, none⟩ : Addr).add j = ⟨b, off + j, none⟩ from by unfold Addr.add; split <;> simp_all]
    exact hc
  | none =>
    have hx : xs = [] := by
      cases xs with
      | nil => rfl
      | cons u l => obtain ⟨_, _, ha, _⟩ := h 0 u rfl; cases ha
    subst hx
    refine ⟨.inl ⟨e', hk⟩, fun _ => rfl, ?_, ?_, hl, fun _ h => by cases h⟩
    · simp [Builtin.firstCells]
    · simp [Builtin.firstCells]

section
variable {P : Program} (w : World)

theorem run_append_own_src (base : Nat) (t tx ty e : TypeId) (i : TypeInfo) (z : Value) (size bytes : Nat) (ht : P.underlying t = some (.slice e)) (hi : P.info? e = some i) (hz : i.zero = some z)
    (hsize : i.size = size) (hby : i.bytes = bytes) (hzs : z.cells.size = size) (hsz : 0 < size)
    (v : Value) (n : Nat) (xs : List Value) (hown : w.ownsRow base e size v n xs)
    (x : Value) (m : Nat) (news : List Value) (hs : Src P size tx x m news w)
    (h63 : n + m ≤ maxLen) (hbytes : (n + m) * bytes ≤ 140737488355328) (hbase : base ≤ w.heap.size) :
    ∃ v' w', (Builtin.append_ #[t, tx] ty #[v, x]).run P w = .ok v' w' ∧ w'.ownsRow base e size v' (n + m) (xs ++ news) ∧ w.grownBy w' v.ownBlock ∧
      (v' = .slice none 0 0 ↔ v = .slice none 0 0 ∧ m = 0) ∧ (v'.ownBlock = v.ownBlock ∨ v'.ownBlock = some w.heap.size) := by
  subst hsize
  subst hby
  have hl := hs.newsLen
  have hsmall : n + m ≤ 9223372036854775807 := by simp only [maxLen] at h63; omega
  have hlen : (xs ++ news).length = (n + m) * i.size := by rw [List.length_append, hown.1, hl, Nat.add_mul]
  have grown : ∀ (old : Nat), old < n + m → ∀ (row : Option Nat),
      (w.drew.alloc (.cells ((xs ++ news).toArray ++ Builtin.zeroCells z.cells (grownCap w (n + m) old e - (n + m))) e)).ownsRow base e i.size
        (.slice (some ⟨w.heap.size, 0, none⟩) (n + m) (grownCap w (n + m) old e)) (n + m) (xs ++ news) ∧
      w.grownBy (w.drew.alloc (.cells ((xs ++ news).toArray ++ Builtin.zeroCells z.cells (grownCap w (n + m) old e - (n + m))) e)) row := by
    intro old ho row
    have hge := grownCap_ge w (n + m) old e
    have hcm : grownCap w (n + m) old e ≤ maxLen := grownCap_le_maxLen w (n + m) old e h63
    refine ⟨⟨hlen, .inr ⟨w.heap.size, _, _, rfl, hbase, heap_alloc_new w.drew _, hge, hcm, ?_, ?_⟩⟩, ⟨rfl, rfl, rfl, by simp, fun k hk _ => heap_alloc_old w.drew _ hk⟩⟩
    · simp only [Array.size_append, List.size_toArray, size_zeroCells, hzs, hlen, ← Nat.add_mul]
      congr 1
      omega
    · simp only [Array.toList_append]
      rw [← hlen]
      exact List.take_left
  rcases hown.2 with ⟨rfl, rfl⟩ | ⟨g, cap, cur, rfl, hbg, hg, hnc, hcm, hcs, htake⟩
  · have hx : xs = [] := List.eq_nil_of_length_eq_zero (by simpa using hown.1)
    subst hx
    by_cases hm : m = 0
    · subst hm
      have hn : news = [] := List.eq_nil_of_length_eq_zero (by simpa using hl)
      subst hn
      refine ⟨.slice none 0 0, w, ?_, World.ownsRow_nil w base e i.size, ⟨rfl, rfl, rfl, Nat.le_refl _, fun _ _ _ => rfl⟩, by simp, .inl rfl⟩
      have h1 := hs.len
      have h2 := hs.cells
      rcases hs.kind with ⟨e', hk⟩ | hk <;> simp [Builtin.append_, run_underlying ht, run_underlying hk, sizeOf, typeInfo, hi, h1, h2]
    · have hr := run_append_grow_src (P := P) w t tx ty e i z ht hi hz none 0 0 [] (by simp [Builtin.firstCells]) x m news hs (by omega) (by omega) (growslice_fits (by omega) hbytes)
      have hgr := grown 0 (by omega) (Value.ownBlock (.slice none 0 0))
      exact ⟨_, _, hr, hgr.1, hgr.2, by simp [hm], .inr rfl⟩
  · by_cases hroom : n + m ≤ cap
    · have hfit : n * i.size + news.length ≤ cur.size := by rw [hl, hcs, ← Nat.add_mul]; exact Nat.mul_le_mul_right _ hroom
      have hr : (Builtin.append_ #[t, tx] ty #[.slice (some ⟨g, 0, none⟩) n cap, x]).run P w =
          .ok (.slice (some ⟨g, 0, none⟩) (n + m) cap) (w.setRow g (cur.toList.take (n * i.size) ++ news ++ cur.toList.drop (n * i.size + news.length)).toArray) := by
        have hst := run_storeCells_at P g (n * i.size) e news 0 cur w hg (by simpa using hfit) hs.one
        simp only [Nat.add_zero] at hst
        have h1 := hs.len
        have h2 := hs.cells
        rcases hs.kind with ⟨e', hk⟩ | hk <;> simp [Builtin.append_, run_underlying ht, run_underlying hk, sizeOf, typeInfo, hi, h1, hroom, h2, Addr.add_lit, hst]
      refine ⟨_, _, hr, ⟨hlen, .inr ⟨g, cap, _, rfl, hbg, setRow_heap w g cur _ e _ hg, hroom, hcm, ?_, ?_⟩⟩, ⟨rfl, rfl, rfl, by simp, fun k _ hk => setRow_other w g k _ (fun e => hk (by simp [Value.ownBlock, e]))⟩, by simp, .inl rfl⟩
      · simp only [List.size_toArray, List.length_append, List.length_take, List.length_drop, Array.length_toList]
        omega
      · rw [htake, ← hlen]
        exact List.take_left
    · have holds : ∀ j u, xs[j]? = some u → w.drew.cell? ((⟨g, 0, none⟩ : Addr).add j) = some u := fun j u hj => by simpa using hown.cells (g := g) rfl j u hj
      have hr := run_append_grow_src (P := P) w t tx ty e i z ht hi hz (some ⟨g, 0, none⟩) n cap xs (run_firstCells_some w.drew i.size n ⟨g, 0, none⟩ n cap xs hown.1 holds) x m news hs (by omega) (by omega) (growslice_fits (by omega) hbytes)
      have hgr := grown cap (by omega) (Value.ownBlock (.slice (some ⟨g, 0, none⟩) n cap))
      exact ⟨_, _, hr, hgr.1, hgr.2, by simp, .inr rfl⟩

theorem wpList_append_src {ops : Array Oper} {rest : List Oper} {o : Oper} {a : Act} {Q : Exit → Act → World → Prop} (hgd : o.guard = none) (s x : Operand) (t tx : TypeId)
    (ho : o.op = .call { callee := .builtin .append, args := #[s, x], argTypes := #[t, tx] })
    (base : Nat) (e : TypeId) (i : TypeInfo) (z : Value) (size bytes : Nat) (ht : P.underlying t = some (.slice e)) (hi : P.info? e = some i) (hz : i.zero = some z)
    (hsize : i.size = size) (hby : i.bytes = bytes) (hzs : z.cells.size = size) (hsz : 0 < size)
    (v : Value) (n : Nat) (xs : List Value) (hv : a.eval s = v) (hown : w.ownsRow base e size v n xs)
    (xv : Value) (m : Nat) (news : List Value) (hx : a.eval x = xv) (hs : Src P size tx xv m news w)
    (h63 : n + m ≤ maxLen) (hbytes : (n + m) * bytes ≤ 140737488355328) (hbase : base ≤ w.heap.size)
    (h : ∀ v' w', w'.ownsRow base e size v' (n + m) (xs ++ news) → w.grownBy w' v.ownBlock → (v' = .slice none 0 0 ↔ v = .slice none 0 0 ∧ m = 0) → (v'.ownBlock = v.ownBlock ∨ v'.ownBlock = some w.heap.size) → wpList P ops Q rest (a.put o.dst v') w') : wpList P ops Q (o :: rest) a w :=
  wpList_plain hgd fun K hK => by
    obtain ⟨v', w', hr, h2, h3, h4, h5⟩ := run_append_own_src (P := P) w base t tx o.type e i z size bytes ht hi hz hsize hby hzs hsz v n xs hown xv m news hs h63 hbytes hbase
    unfold Oper.wp execOp
    simp only [ho, resolve, invoke, builtin, Sem.run_bind, Sem.run_pure, Result.andThen_ok, List.map_toArray, List.map_cons, List.map_nil, hv, hx, hr]
    exact hK _ _ (h v' w' h2 h3 h4 h5)
end
end Go.Proofs.YtclekhjnnljjlaaGreatDoor
namespace Go.Proofs.YtclekhjnnljjlaaGreatDoor
open Go.RowKit
set_option maxHeartbeats 400000
set_option maxRecDepth 100000

/-- The kind of a character, as runes.Kind has it. -/
def kindN (r : Int) : Int :=
  if r < 0 ∨ 1114111 < r then 0 else if r = 0 then 2 else if r ≤ 31 ∨ (127 ≤ r ∧ r ≤ 159) then 3 else if 55296 ≤ r ∧ r ≤ 57343 then 4
  else if 57344 ≤ r ∧ r ≤ 63743 then 5 else if 65520 ≤ r ∧ r ≤ 65535 then 6 else if 65536 ≤ r then 7 else 1

theorem kindN_pl (r : Nat) : kindN r = 1 ↔ pl r = true := by
  simp only [kindN, pl, Bool.or_eq_true, Bool.and_eq_true, decide_eq_true_eq]
  repeat' split
  all_goals omega

theorem ret_int {k : IntKind} {a b : Int} (h : a = b) : Ending.returned (.int k a) = .returned (.int k b) := by rw [h]

theorem kind_any (r : Int) (w : World) : Calls Tryz.prog 206 #[.int .i32 r] w fun e w' => e = .returned (.int .i64 (kindN r)) ∧ w = w' := by
  go_enter Tryz.func206, Tryz.ntmps206
  go_wp2
  all_goals (try go_ret)
  all_goals (refine ⟨ret_int ?_, rfl⟩; go_light; (try simp only [beq_iff_eq, beq_eq_false_iff_ne, ne_eq] at *); unfold kindN; repeat' split)
  all_goals (first | rfl | (exfalso; omega))

theorem of_any (s : ByteArray) (at' r : Nat) (w : World) (h : at' ≤ s.size) : Calls Tryz.prog 163 #[.string s, .int .i64 at', .int .i32 r] w fun e w' => ∃ k : Int, e = .returned (.int .i64 k) ∧ (k = 1 ↔ pl r = true) ∧ w = w' := by
  by_cases h1 : r = 65533
  · subst h1
    go_enter Tryz.func163, Tryz.ntmps163
    go_wp2_with (first | (go_at_call 205; refine (Tryz.strings_HasPrefix _ _ _).mono ?_; rintro e w' ⟨rfl, rfl⟩) | (go_at_call 206; refine (kind_any _ _).mono ?_; rintro e w' ⟨rfl, rfl⟩))
    · go_ret
      exact ⟨_, rfl, by decide, rfl⟩
    · go_ret
      exact ⟨_, rfl, kindN_pl 65533, rfl⟩
  · have h2 : ((r : Int) == 65533) = false := by simp; omega
    go_enter Tryz.func163, Tryz.ntmps163
    go_wp2_with (go_at_call 206; refine (kind_any _ _).mono ?_; rintro e w' ⟨rfl, rfl⟩)
    go_ret
    exact ⟨_, rfl, kindN_pl r, rfl⟩
theorem first_any (s : ByteArray) (w : World) : Calls Tryz.prog 130 #[.string s] w fun e w' => ∃ (k : Int) (pos : Nat), e = .returned (.tuple #[.int .i64 (fbAt s 0), .int .i64 k]) ∧ w' = w.iter s pos := by
  go_enter Tryz.func130, Tryz.ntmps130
  go_wp2
  go_loopw [4] (fun _ wr => ∃ pos : Nat, wr = w.iter s pos ∧ pos ≤ s.size ∧ Hid (fbAt s pos = fbAt s 0)) (fun _ wr => s.size - wr.iterPos w.heap.size)
  case atStart => exact ⟨0, rfl, Nat.zero_le _, rfl⟩
  case round =>
    obtain ⟨pos, rfl, hpos, H⟩ := hrel
    by_cases hlt : pos < s.size
    · have hs := fbAt_step s pos hlt
      have d := dec s pos hlt
      have hd1 := d.pos
      have hd2 := d.fits
      clear d
      have hn := run_next_any (P := Tryz.prog) w s pos
      by_cases hpl : pl (Utf8.decode s pos).1 = true
      · rw [if_pos hpl] at hs
        have H2 : Hid (fbAt s (pos + (Utf8.decode s pos).2) = fbAt s 0) := hs.symm.trans H
        clear hs H
        go_wp2_with fail
        refine (of_any s pos (Utf8.decode s pos).1 _ hpos).mono ?_
        rintro e w' ⟨k, rfl, hk, rfl⟩
        obtain rfl : k = 1 := hk.2 hpl
        clear hk
        go_wp2
        go_roundw
        case rel => exact ⟨_, rfl, hd2, H2⟩
        case measure => simp; omega
      · rw [if_neg hpl] at hs
        have H2 : Hid (fbAt s 0 = (pos : Int)) := (H.symm.trans hs)
        clear hs H
        go_wp2_with fail
        refine (of_any s pos (Utf8.decode s pos).1 _ hpos).mono ?_
        rintro e w' ⟨k, rfl, hk, rfl⟩
        have hk1 : (k != 1) = true := by simp; intro h; exact hpl (hk.1 h)
        clear hk
        go_wp2
        go_ret2
        exact ⟨k, pos + (Utf8.decode s pos).2, by rw [H2.out]; rfl, rfl⟩
    · have H2 : Hid (fbAt s 0 = -1) := H.symm.trans (fbAt_end s pos (by omega))
      have hn := run_next_end (P := Tryz.prog) w s pos
      go_wp2
      go_ret2
      exact ⟨1, pos, by rw [H2.out]; rfl, rfl⟩
end Go.Proofs.YtclekhjnnljjlaaGreatDoor
namespace Go.Proofs.YtclekhjnnljjlaaGreatDoor
open Go.RowKit
set_option maxHeartbeats 400000
set_option maxRecDepth 100000

theorem infoU8 : (Tryz.prog.info? 5).map (fun i => (i.zero, i.size, i.bytes)) = some (some (.int .u8 0), 1, 1) := by kernel_rfl

theorem one_u8 (xs : List UInt8) : ∀ u ∈ xs.map u8v, u.oneCell' = true := fun u hu => by
  obtain ⟨_, _, rfl⟩ := List.mem_map.1 hu; rfl

/-- One byte of a number. -/
def byteAt (x : Int) (i : Nat) : UInt8 := UInt8.ofNat (x.toNat / 2 ^ (8 * i) % 256)
/-- So many bytes of a number, the highest first. -/
def be (x : Int) : Nat → List UInt8
  | 0 => []
  | i + 1 => byteAt x i :: be x i
end Go.Proofs.YtclekhjnnljjlaaGreatDoor
namespace Go.Proofs.YtclekhjnnljjlaaGreatDoor
open Go.RowKit
set_option maxHeartbeats 400000
set_option maxRecDepth 100000

end Go.Proofs.YtclekhjnnljjlaaGreatDoor
namespace Go.Proofs.YtclekhjnnljjlaaGreatDoor
open Go.RowKit
set_option maxHeartbeats 400000
set_option maxRecDepth 100000

/-- A copy in new memory. -/
def CloneOut (ty size : Nat) (a : Option Addr) (n : Nat) (xs : List Value) (w : World) (e : Ending) (w' : World) : Prop :=
  ∃ v', e = .returned v' ∧ w'.ownsRow w.heap.size ty size v' n xs ∧ Below w.heap.size w w' ∧ (v' = .slice none 0 0 ↔ a = none)

theorem ownsRow_empty (w : World) (e : TypeId) (size : Nat) : (w.alloc (.cells #[] e)).ownsRow w.heap.size e size (.slice (some ⟨w.heap.size, 0, none⟩) 0 0) 0 [] :=
  ⟨by simp, .inr ⟨w.heap.size, 0, #[], rfl, Nat.le_refl _, heap_alloc_new w _, Nat.le_refl _, Nat.zero_le _, by simp, by simp⟩⟩

theorem Cells.none {B : Nat} {w : World} {xs : List Value} (h : Cells B w none xs) : xs = [] := by
  cases xs with
  | nil => rfl
  | cons u l => obtain ⟨_, _, ha, _⟩ := h 0 u rfl; cases ha

/-- An entry of a list of permissions. -/
structure Ac where
  perms : Int
  scheme : ByteArray
  id : ByteArray
def acC (x : Ac) : List Value := [.int .i32 x.perms, .string x.scheme, .string x.id]
def acCs (l : List Ac) : List Value := l.flatMap acC
theorem acCs_length (l : List Ac) : (acCs l).length = l.length * 3 := by
  induction l with
  | nil => rfl
  | cons a l ih => simp only [acCs, List.flatMap_cons, List.length_append, List.length_cons] at *; rw [ih]; simp [acC]; omega
theorem one_ac (xs : List Ac) : ∀ u ∈ acCs xs, u.oneCell' = true := fun u hu => by
  obtain ⟨x, _, h⟩ := List.mem_flatMap.1 hu
  simp only [acC, List.mem_cons, List.mem_nil_iff, or_false] at h
  rcases h with rfl | rfl | rfl <;> rfl
theorem infoAc : (Tryz.prog.info? 146).map (fun i => (i.zero, i.size, i.bytes)) = some (some (.agg #[.int .i32 0, .string ⟨#[]⟩, .string ⟨#[]⟩]), 3, 40) := by kernel_rfl

/-- A row of the call's own, as a slice's cells. -/
theorem ownsRow_cells {w : World} {base e size n : Nat} {v : Value} {xs : List Value} (h : w.ownsRow base e size v n xs) : ∃ a c, v = .slice a n c ∧ Cells w.heap.size w a xs := by
  rcases h.2 with ⟨rfl, rfl⟩ | ⟨g, cap, cur, rfl, h1, h2, h3⟩
  · have hx : xs = [] := List.eq_nil_of_length_eq_zero (by simpa using h.1)
    subst hx
    exact ⟨none, 0, rfl, Cells.nil _ _ _⟩
  · refine ⟨_, cap, rfl, fun j u hj => ⟨g, 0, rfl, (Array.getElem?_eq_some_iff.1 h2).1, ?_⟩⟩
    have := h.cells (g := g) rfl j u hj
    rwa [show ((⟨g, 0, none⟩ : Addr).add j) = ⟨g, 0 + j, none⟩ from by unfold Addr.add; split <;> simp_all] at this

end Go.Proofs.YtclekhjnnljjlaaGreatDoor
namespace Go.Proofs.YtclekhjnnljjlaaGreatDoor
open Go.RowKit
set_option maxHeartbeats 400000
set_option maxRecDepth 100000

/-- What stands ahead of the first slash. -/
def cutB (t : ByteArray) : ByteArray := if 0 ≤ Lib.indexByte t.data.toList 47 then t.extract 0 (Lib.indexByte t.data.toList 47).toNat else t

theorem indexByte_lt (t : ByteArray) (h : 0 ≤ Lib.indexByte t.data.toList 47) : (Lib.indexByte t.data.toList 47).toNat < t.size := by
  obtain ⟨o, ho⟩ := Int.eq_ofNat_of_zero_le h
  obtain ⟨h1, _⟩ := Lib.indexByte_some ho
  have := (List.getElem?_eq_some_iff.1 h1).1
  rw [ho]; simpa using this

theorem cut_any (t : ByteArray) (w : World) (ht : t.size ≤ 9223372036854775806) : Calls Tryz.prog 164 #[.string t, .string ⟨#[47]⟩] w fun e w' =>
    ∃ (b : ByteArray) (f : Bool) (n : Nat), e = .returned (.tuple #[.string (cutB t), .string b, .bool f]) ∧ w' = w.drewN n := by
  have hge := Lib.indexByte_ge t.data.toList 47
  have HC := Tryz.stringslite_Index_one t 47 w
  by_cases h : 0 ≤ Lib.indexByte t.data.toList 47
  · have hl := indexByte_lt t h
    have e1 : cutB t = t.extract 0 (Lib.indexByte t.data.toList 47).toNat := by unfold cutB; rw [if_pos h]
    have E1 := Lib.hid e1
    clear e1
    generalize Lib.indexByte t.data.toList 47 = i at *
    obtain ⟨i, rfl⟩ := Int.eq_ofNat_of_zero_le h
    simp only [Int.toNat_natCast] at *
    have hl2 : (i : Int) + 1 ≤ t.size := by omega
    go_enter Tryz.func164, Tryz.ntmps164
    go_wp2_with fail
    refine HC.mono ?_
    rintro e w' ⟨rfl, rfl⟩
    clear HC
    go_wp2
    go_quiet (fail)
    go_wp2
    go_ret3
    exact ⟨_, _, _, by rw [E1.out]; rfl, rfl⟩
  · have e1 : cutB t = t := by unfold cutB; rw [if_neg h]
    have E1 := Lib.hid e1
    clear e1
    generalize Lib.indexByte t.data.toList 47 = i at *
    obtain rfl : i = -1 := by omega
    go_enter Tryz.func164, Tryz.ntmps164
    go_wp2_with fail
    refine HC.mono ?_
    rintro e w' ⟨rfl, rfl⟩
    clear HC
    go_wp2
    go_ret3
    exact ⟨_, _, 0, by rw [E1.out]; rfl, rfl⟩
theorem Cut_any (t : ByteArray) (w : World) (ht : t.size ≤ 9223372036854775806) : Calls Tryz.prog 131 #[.string t, .string ⟨#[47]⟩] w fun e w' =>
    ∃ (b : ByteArray) (f : Bool) (n : Nat), e = .returned (.tuple #[.string (cutB t), .string b, .bool f]) ∧ w' = w.drewN n := by
  go_enter Tryz.func131, Tryz.ntmps131
  go_wp2_with fail
  refine (cut_any t w ht).mono ?_
  rintro e w' ⟨b, f, n, rfl, rfl⟩
  go_wp2
  go_ret3
  exact ⟨b, f, n, rfl, rfl⟩

theorem takeWhile_index : ∀ (l : List UInt8), l.takeWhile (· != 47) = if 0 ≤ Lib.indexByte l 47 then l.take (Lib.indexByte l 47).toNat else l
  | [] => by simp [Lib.indexByte]
  | b :: l => by
    have hge := Lib.indexByte_ge l 47
    have ih := takeWhile_index l
    simp only [Lib.indexByte]
    by_cases hb : b = 47
    · subst hb; simp
    · have h1 : (b == 47) = false := by simp [hb]
      have h2 : (b != 47) = true := by simp [hb]
      rw [List.takeWhile_cons_of_pos (by simpa using hb), ih]
      simp only [h1]
      by_cases hi : Lib.indexByte l 47 = -1
      · simp [hi]
      · have h3 : (Lib.indexByte l 47 == -1) = false := by simp [hi]
        simp only [h3]
        rw [if_pos (by omega)]
        have : (Lib.indexByte l 47 + 1).toNat = (Lib.indexByte l 47).toNat + 1 := by omega
        simp [this]
        omega

theorem cutB_list (s : ByteArray) (p : Nat) (hp : p ≤ s.size) : (cutB (s.extract p s.size)).toList = partL s p := by
  have e : (s.extract p s.size).data.toList = s.data.toList.drop p := by
    rw [Lib.extract_to_end]
  unfold partL cutB
  rw [takeWhile_index, ← e]
  split
  · rw [ByteArray.toList_eq, Lib.extract_data]; simp
  · rw [ByteArray.toList_eq]

theorem below_iter {B : Nat} {a w : World} (h : Below B a w) (hB : B ≤ w.heap.size) (s : ByteArray) (p : Nat) : Below B a (w.iter s p) := h.alloc hB _
theorem below_drewN {B : Nat} {a w : World} (h : Below B a w) (n : Nat) : Below B a (w.drewN n) := ⟨h.os, h.tape, h.output, h.size, h.block⟩

theorem iter_drewN (w : World) (s : ByteArray) (p n m : Nat) : (((w.drewN n).iter s p).drewN m) = (w.drewN (n + m)).iter s p := by
  simp [World.drewN, World.iter, World.alloc, Nat.add_assoc]

theorem iterPos_d (w : World) (s : ByteArray) (p n : Nat) : ((w.drewN n).iter s p).iterPos w.heap.size = p := World.iterPos_iter (w.drewN n) s p

theorem sep_ok (s : ByteArray) (p : Nat) (h : bat s p ≠ 47) : sep s p = true := by simp [sep, h]
theorem sep_slash (s : ByteArray) (p : Nat) (h : bat s p = 47) : sep s p = (!(0 < p && bat s (p - 1) == 47) && !dots s (p + 1)) := by simp [sep, h]

theorem dec_one (s : ByteArray) (p : Nat) (h : bat s p = 47) (d : bat s p < 128 → Utf8.decode s p = (bat s p, 1)) : Utf8.decode s p = (47, 1) := by
  rw [d (by omega), h]

/-- What is so behind a character that is no slash, or one. -/
theorem next_last (s : ByteArray) (p : Nat) (d : Dec s p) (hpl : pl (Utf8.decode s p).1 = true) : (bat s (p + (Utf8.decode s p).2 - 1) = 47 ↔ bat s p = 47) ∧ ((Utf8.decode s p).1 = 47 ↔ bat s p = 47) := by
  have h1 := d.pos
  by_cases h : (Utf8.decode s p).2 = 1
  · have h3 : (Utf8.decode s p).1 ≠ 65533 := by intro e; rw [e] at hpl; revert hpl; decide
    have := d.one h h3
    rw [h, Nat.add_sub_cancel]
    exact ⟨Iff.rfl, by rw [this.1]⟩
  · have h3 := d.more h
    have h4 := d.tail ((Utf8.decode s p).2 - 1) (by omega) (by omega)
    rw [show p + (Utf8.decode s p).2 - 1 = p + ((Utf8.decode s p).2 - 1) from by omega]
    exact ⟨⟨by omega, by omega⟩, ⟨by omega, by omega⟩⟩

theorem vpath_big (s : ByteArray) (h : 4096 < s.size) : vpath s = false := by simp [vpath]; omega
theorem vpath_start (s : ByteArray) (h : bat s 0 ≠ 47) : vpath s = false := by simp [vpath, h]
theorem vpath_empty (s : ByteArray) (h : s.size = 0) : vpath s = false := by simp [vpath, h]
theorem vpath_root (s : ByteArray) (h : s.size = 1) (h0 : bat s 0 = 47) : vpath s = true := by simp [vpath, h, h0]
theorem vpath_end (s : ByteArray) (h : s.size ≠ 1) (h0 : bat s (s.size - 1) = 47) : vpath s = false := by simp [vpath, h, h0]
theorem vpath_scan (s : ByteArray) (h : s.size ≠ 1) (h0 : s.size ≠ 0) (h1 : s.size ≤ 4096) (h2 : bat s 0 = 47) (h3 : bat s (s.size - 1) ≠ 47) : vpath s = scanAt s 0 := by
  have a1 : (s.size != 0) = true := bne_iff_ne.2 h0
  have a2 : (bat s (s.size - 1) != 47) = true := bne_iff_ne.2 h3
  have a3 : (s.size == 1) = false := beq_eq_false_iff_ne.2 h
  have a4 : decide (s.size ≤ 4096) = true := by simpa using h1
  have a5 : (bat s 0 == 47) = true := beq_iff_eq.2 h2
  simp only [vpath, a1, a2, a3, a4, a5, scanAt, Bool.true_and, Bool.false_or]

theorem size_toList (s : ByteArray) : s.toList.length = s.size := by rw [ByteArray.toList_eq]; simp
theorem isEmpty_size (s : ByteArray) : s.toList.isEmpty = (s.size == 0) := by
  rw [← size_toList]; cases s.toList <;> simp
theorem root_size (s : ByteArray) (h0 : 0 < s.size) (h : bat s 0 = 47) : (s.toList == [47]) = (s.size == 1) := by
  have e : s.data.toList[0]'(by simpa using h0) = 47 := by
    have := bat_get s 0 h0
    rw [h] at this
    exact UInt8.toNat_inj.1 (this.symm.trans rfl)
  have h0' : 0 < s.data.toList.length := by simpa using h0
  rw [ByteArray.toList_eq, ← size_toList, ByteArray.toList_eq]
  cases hl : s.data.toList with
  | nil => rw [hl] at h0'; simp at h0'
  | cons a l =>
    simp only [hl, List.getElem_cons_zero] at e
    subst e
    cases l <;> simp

set_option maxHeartbeats 1000000 in
theorem check_any (s : ByteArray) (w : World) (hs : s.size ≤ 9223372036854775806) : Calls Tryz.prog 103 #[.string s] w fun e w' =>
    ∃ f a : Int, e = .returned (.tuple #[.int .i64 f, .int .i64 a]) ∧ Hid (f = 0 ↔ vpath s = true) ∧ Below w.heap.size w w' := by
  have he := isEmpty_size s
  by_cases h0 : s.size = 0
  · have hv := Lib.hid (vpath_empty s h0)
    have he' : s.toList.isEmpty = true := by rw [he]; simp [h0]
    clear he h0
    go_enter Tryz.func103, Tryz.ntmps103
    go_wp2; go_step3; go_wp2
    rw [Exit.noGoto_ret]; go_ret2
    exact ⟨1, 0, rfl, by unfold Hid; rw [hv.out]; simp, Below.refl _ _⟩
  have he' : s.toList.isEmpty = false := by rw [he]; simp [h0]
  have hp : 0 < s.size := by omega
  clear he
  by_cases h1 : 4096 < s.size
  · have hv := Lib.hid (vpath_big s h1)
    go_enter Tryz.func103, Tryz.ntmps103
    go_wp2; go_step3; go_wp2
    rw [Exit.noGoto_ret]; go_ret2
    exact ⟨2, 4096, rfl, by unfold Hid; rw [hv.out]; simp, Below.refl _ _⟩
  by_cases h2 : bat s 0 ≠ 47
  · have hv := Lib.hid (vpath_start s h2)
    have h2' : ((s[0].toNat : Int) != 47) = true := by rw [← bat_get s 0 hp]; simp; omega
    go_enter Tryz.func103, Tryz.ntmps103
    go_wp2; go_step3; go_wp2
    rw [Exit.noGoto_ret]; go_ret2
    exact ⟨3, 0, rfl, by unfold Hid; rw [hv.out]; simp, Below.refl _ _⟩
  have h2 : bat s 0 = 47 := by omega
  have h2' : ((s[0].toNat : Int) != 47) = false := by rw [← bat_get s 0 hp]; simp; omega
  have hr := root_size s hp h2
  by_cases h3 : s.size = 1
  · have hv := Lib.hid (vpath_root s h3 h2)
    have hr' : (s.toList == [47]) = true := by rw [hr]; simp [h3]
    clear hr h3 h2
    go_enter Tryz.func103, Tryz.ntmps103
    go_wp2; go_step3; go_wp2
    rw [Exit.noGoto_ret]; go_ret2
    exact ⟨0, -1, rfl, by unfold Hid; rw [hv.out]; simp, Below.refl _ _⟩
  have hr' : (s.toList == [47]) = false := by rw [hr]; simp [h3]
  clear hr
  have hb1 : 1 ≤ (s.size : Int) ∧ (s.size : Int) - 1 < s.size := by omega
  by_cases h4 : bat s (s.size - 1) = 47
  · have hv := Lib.hid (vpath_end s h3 h4)
    have h4' : ((s[s.size - 1].toNat : Int) == 47) = true := by rw [← bat_get s (s.size - 1) (by omega)]; simp; omega
    clear h4 h2
    go_enter Tryz.func103, Tryz.ntmps103
    go_wp2; go_step3; go_wp2
    rw [Exit.noGoto_ret]; go_ret2
    exact ⟨4, _, rfl, by unfold Hid; rw [hv.out]; simp, Below.refl _ _⟩
  have h4' : ((s[s.size - 1].toNat : Int) == 47) = false := by rw [← bat_get s (s.size - 1) (by omega)]; simp; omega
  have hv := Lib.hid (vpath_scan s h3 h0 (by omega) h2 h4)
  clear h4 h2
  go_enter Tryz.func103, Tryz.ntmps103
  go_wp2; go_step3
  go_wp2_with (go_at_call 130; refine (first_any _ _).mono ?_; rintro e w' ⟨k, pos, rfl, rfl⟩)
  have hB : Below w.heap.size w (w.iter s pos) := below_iter (Below.refl _ _) (Nat.le_refl _) s pos
  have hfb := fbAt_ge s 0
  generalize w.iter s pos = w1 at hB ⊢
  clear hr' he'
  go_step3
  go_wp2
  go_loopw [6] (fun b wr => ∃ pos b' n : Nat, wr = (w1.drewN n).iter s pos ∧ b = .int .i64 b' ∧ pos ≤ s.size ∧ b' ≤ pos ∧ Hid (0 < pos → (b' = pos ↔ bat s (pos - 1) = 47)) ∧ Hid (scanAt s 0 = scanAt s pos) ∧ Hid (fbAt s 0 = fbAt s pos)) (fun _ wr => s.size - wr.iterPos w1.heap.size)
  case atStart => exact ⟨0, 0, 0, rfl, rfl, Nat.zero_le _, Nat.zero_le _, by unfold Hid; omega, rfl, rfl⟩
  case round =>
    obtain ⟨pos, b, n, rfl, rfl, hpos, hb, Hb, Hs, Hf⟩ := hrel
    by_cases hlt : pos < s.size
    · have hfs := fbAt_step s pos hlt
      have hss := scanAt_step s pos hlt
      have d := dec s pos hlt
      have hd1 := d.pos
      have hd2 := d.fits
      have d0 := d.ascii
      have hn := run_next_any (P := Tryz.prog) (w1.drewN n) s pos
      rw [show (w1.drewN n).heap.size = w1.heap.size from rfl] at hn
      by_cases hpl : pl (Utf8.decode s pos).1 = true
      · rw [if_pos hpl] at hfs
        have hnl := next_last s pos d hpl
        have hge := fbAt_ge s (pos + (Utf8.decode s pos).2)
        have hne : ((pos : Int) == fbAt s 0) = false := by rw [Hf.out, hfs]; simp; omega
        clear d
        by_cases h47 : bat s pos = 47
        · have hda := dec_one s pos h47 d0
          have hr : (((Utf8.decode s pos).1 : Int) != 47) = false := by rw [hda]; rfl
          have ht : (s.extract (pos + 1) s.size).size ≤ 9223372036854775806 := by rw [ByteArray.size_extract]; omega
          have hcl := cutB_list s (pos + 1) (by omega)
          rw [sep_slash s pos h47] at hss
          rw [hda] at hd2
          simp only [] at hd2
          by_cases hv2 : 0 < pos ∧ bat s (pos - 1) = 47
          · have hbp : b = pos := (Hb.out hv2.1).2 hv2.2
            subst hbp
            have hg0 : decide ((0 : Int) < (b : Int)) = true := by simp; omega
            have H1 : Hid (scanAt s 0 = false) := by
              unfold Hid; rw [Hs.out, hss]; simp [hv2]
            clear hss hfs Hs Hf hpl hcl hnl hda
            go_wp2
            (try rw [Exit.noGoto_ret]); go_ret2
            exact ⟨5, _, rfl, by unfold Hid; rw [hv.out, H1.out]; simp, below_iter (below_drewN hB n) (by exact hB.size) s _⟩
          · have hbz : ¬ (0 < pos) ∨ (0 < pos ∧ ((b : Int) == (pos : Int)) = false) := by
              by_cases hz : 0 < pos
              · have : b ≠ pos := fun e => hv2 ⟨hz, (Hb.out hz).1 e⟩
                right; refine ⟨hz, ?_⟩; simp; omega
              · exact .inl hz
            have hex : Exists fun b : Bool => dots s (pos + 1) = b := ⟨_, rfl⟩
            obtain ⟨dt, hdt⟩ := hex
            have hss2 : scanAt s pos = (!dt && scanAt s (pos + 1)) := by
              rw [hss, hdt, hda]
              have : (decide (0 < pos) && bat s (pos - 1) == 47) = false := by
                rw [Bool.and_eq_false_iff]
                by_cases hz : 0 < pos
                · right; simp; exact fun e => hv2 ⟨hz, e⟩
                · left; simpa using hz
              rw [this, show pl (47, 1).1 = true from rfl]; simp
            rw [hda] at hfs
            have H1 := Lib.hid (Hs.out.trans hss2)
            have H2 := Lib.hid (Hf.out.trans hfs)
            unfold dots at hdt
            rw [← hcl] at hdt
            clear hss hss2 hfs Hs Hf hpl hcl hnl hda hge hv2 Hb
            cases dt
            · simp only [Bool.or_eq_false_iff] at hdt
              obtain ⟨e1, e2⟩ := hdt
              have e3 : ¬ (cutB (s.extract (pos + 1) s.size)).toList = [46] := by simpa using e1
              rcases hbz with hbz | ⟨hz, hbz⟩
              all_goals
                go_wp2_with (go_at_call 131; refine (Cut_any _ _ ht).mono ?_; rintro e w' ⟨cb, cf, m, rfl, rfl⟩)
                go_roundw
                case rel => exact ⟨pos + 1, pos + 1, n + m, iter_drewN _ _ _ _ _, by go_num, by omega, by omega, by unfold Hid; simp; omega, by have := H1.out; simpa [Hid] using this, H2⟩
                case measure => rw [iter_drewN, iterPos_d, iterPos_d]; omega
            · have H3 : Hid (scanAt s 0 = false) := by unfold Hid; rw [H1.out]; rfl
              clear H1 H2
              have hd : (cutB (s.extract (pos + 1) s.size)).toList = [46] ∨ (¬ (cutB (s.extract (pos + 1) s.size)).toList = [46] ∧ ((cutB (s.extract (pos + 1) s.size)).toList == [46]) = false ∧ ((cutB (s.extract (pos + 1) s.size)).toList == [46, 46]) = true) := by
                by_cases e : (cutB (s.extract (pos + 1) s.size)).toList = [46]
                · exact .inl e
                · right; simp [e] at hdt; simp [e, hdt]
              clear hdt
              rcases hbz with hbz | ⟨hz, hbz⟩ <;> rcases hd with hd | ⟨hd, hd1, hd2⟩
              all_goals
                go_wp2_with (go_at_call 131; refine (Cut_any _ _ ht).mono ?_; rintro e w' ⟨cb, cf, m, rfl, rfl⟩)
                (try rw [Exit.noGoto_ret]); go_ret2
                exact ⟨6, _, rfl, by unfold Hid; rw [hv.out, H3.out]; simp, below_drewN (below_iter (below_drewN hB n) (by exact hB.size) s _) _⟩
        · have hr : (((Utf8.decode s pos).1 : Int) != 47) = true := by simp; omega
          have H1 := Lib.hid (Hs.out.trans hss)
          have H2 := Lib.hid (Hf.out.trans hfs)
          rw [hpl, sep_ok s pos h47, Bool.true_and, Bool.true_and] at H1
          have H3 := Lib.hid hnl.1
          clear hnl hss hfs Hs Hf hpl
          go_wp2
          go_roundw
          case rel => exact ⟨_, b, n, rfl, rfl, hd2, by omega, by have := H3.out; unfold Hid; omega, H1, H2⟩
          case measure => rw [iterPos_d, iterPos_d]; omega
      · rw [if_neg hpl] at hfs
        have hne : ((pos : Int) == fbAt s 0) = true := by rw [Hf.out, hfs]; simp
        have H1 : Hid (scanAt s 0 = false) := by
          unfold Hid; rw [Hs.out, hss]; simp [hpl]
        clear hss hfs Hs Hf hpl d
        go_wp2
        (try rw [Exit.noGoto_ret]); go_ret2
        exact ⟨7, _, rfl, by unfold Hid; rw [hv.out, H1.out]; simp, below_iter (below_drewN hB n) (by exact hB.size) s _⟩
    · have H1 : Hid (scanAt s 0 = true) := by unfold Hid; rw [Hs.out]; exact scanAt_end s pos (by omega)
      have hn := run_next_end (P := Tryz.prog) (w1.drewN n) s pos
      rw [show (w1.drewN n).heap.size = w1.heap.size from rfl] at hn
      clear Hs Hf
      go_wp2
      (try rw [Exit.noGoto_ret]); go_ret2
      exact ⟨0, -1, rfl, by unfold Hid; rw [hv.out, H1.out]; simp, below_iter (below_drewN hB n) (by exact hB.size) s _⟩

theorem valid_any (s : ByteArray) (w : World) (hs : s.size ≤ 9223372036854775806) : Calls Tryz.prog 66 #[.string s] w fun e w' =>
    e = .returned (.bool (vpath s)) ∧ Below w.heap.size w w' := by
  by_cases hv : vpath s = true
  · go_enter Tryz.func66, Tryz.ntmps66
    go_wp2_with fail
    refine (check_any s w hs).mono ?_
    rintro e w' ⟨f, a, rfl, hf, hB⟩
    obtain rfl : f = 0 := hf.out.2 hv
    go_wp2
    go_ret
    exact ⟨by rw [hv]; rfl, hB⟩
  · go_enter Tryz.func66, Tryz.ntmps66
    go_wp2_with fail
    refine (check_any s w hs).mono ?_
    rintro e w' ⟨f, a, rfl, hf, hB⟩
    have hf0 : (f == 0) = false := by simp; intro h; exact hv (hf.out.1 h)
    have hv' : vpath s = false := by simpa using hv
    clear hf hv
    go_wp2
    go_ret
    exact ⟨by rw [hv']; rfl, hB⟩
end Go.Proofs.YtclekhjnnljjlaaGreatDoor
namespace Go.Proofs.YtclekhjnnljjlaaGreatDoor
open Go.RowKit

def contOk (s : ByteArray) (i : Nat) : Prop := i < s.size ∧ 128 ≤ bat s i ∧ bat s i < 192

/-- The number read of a lead and k bytes behind it. -/
def acc (s : ByteArray) (p : Nat) (r0 : Int) : Nat → Int
  | 0 => r0
  | k + 1 => 64 * acc s p r0 k + bat s (p + (k + 1)) - 128

theorem acc_bd (s : ByteArray) (p : Nat) (r0 : Int) (h0 : 0 ≤ r0) (h1 : r0 < 32) : ∀ k, (∀ j, 1 ≤ j → j ≤ k → contOk s (p + j)) → 0 ≤ acc s p r0 k ∧ acc s p r0 k < 32 * (64 ^ k : Nat)
  | 0, _ => by simp [acc]; omega
  | k + 1, h => by
    have ih := acc_bd s p r0 h0 h1 k (fun j a b => h j a (by omega))
    have hc := (h (k + 1) (by omega) (by omega)).2
    simp only [acc]
    have : (64 ^ (k + 1) : Nat) = 64 * 64 ^ k := by rw [Nat.pow_succ, Nat.mul_comm]
    rw [this]
    generalize (64 ^ k : Nat) = q at *
    omega

theorem acc_le (s : ByteArray) (p : Nat) (r0 : Int) (h0 : 0 ≤ r0) (h1 : r0 < 32) (k : Nat) (hk : k ≤ 3) (h : ∀ j, 1 ≤ j → j ≤ k → contOk s (p + j)) : 0 ≤ acc s p r0 k ∧ acc s p r0 k ≤ 8388608 := by
  have := acc_bd s p r0 h0 h1 k h
  rcases (by omega : k = 0 ∨ k = 1 ∨ k = 2 ∨ k = 3) with rfl | rfl | rfl | rfl <;> simp at this ⊢ <;> omega

/-- What leads so many bytes: their number, what the lead takes off, the least number. -/
def Lead (s : ByteArray) (p n : Nat) (off least : Int) : Prop :=
  (n = 2 ∧ off = 192 ∧ least = 128 ∧ 192 ≤ bat s p ∧ bat s p < 224) ∨ (n = 3 ∧ off = 224 ∧ least = 2048 ∧ 224 ≤ bat s p ∧ bat s p < 240) ∨ (n = 4 ∧ off = 240 ∧ least = 65536 ∧ 240 ≤ bat s p ∧ bat s p < 248)

theorem not_cont (s : ByteArray) (i : Nat) (h : ¬ contOk s i) : (decide (i < s.size) && bat s i / 64 == 2) = false := by
  unfold contOk at h
  rw [Bool.and_eq_false_iff]
  by_cases hi : i < s.size
  · right; rw [beq_eq_false_iff_ne]; have := bat_lt s i; omega
  · left; simpa using hi
theorem is_cont (s : ByteArray) (i : Nat) (h : contOk s i) : (decide (i < s.size) && bat s i / 64 == 2) = true := by
  unfold contOk at h
  rw [Bool.and_eq_true, decide_eq_true_eq, beq_iff_eq]
  exact ⟨h.1, by omega⟩

theorem dec_bad (s : ByteArray) (p n : Nat) (off least : Int) (hl : Lead s p n off least) (k : Nat) (h1 : 1 ≤ k) (hk : k < n) (hc : ¬ contOk s (p + k)) : Utf8.decode s p = (65533, 1) := by
  rw [dec_eq]
  have hn := not_cont s (p + k) hc
  rcases hl with ⟨rfl, _, _, a, b⟩ | ⟨rfl, _, _, a, b⟩ | ⟨rfl, _, _, a, b⟩
  · obtain rfl : k = 1 := by omega
    rw [if_neg (by omega), if_neg (by simp only [hn]; simp), if_neg (by simp; omega), if_neg (by simp; omega)]
  · rw [if_neg (by omega), if_neg (by simp; omega), if_neg (by rcases (by omega : k = 1 ∨ k = 2) with rfl | rfl <;> simp only [hn] <;> simp), if_neg (by simp; omega)]
  · rw [if_neg (by omega), if_neg (by simp; omega), if_neg (by simp; omega), if_neg (by rcases (by omega : k = 1 ∨ k = 2 ∨ k = 3) with rfl | rfl | rfl <;> simp only [hn] <;> simp)]

theorem dec_lone (s : ByteArray) (p : Nat) (h : 128 ≤ bat s p) (h' : bat s p < 192 ∨ 248 ≤ bat s p) : Utf8.decode s p = (65533, 1) := by
  have := bat_lt s p
  rw [dec_eq, if_neg (by omega), if_neg (by simp; omega), if_neg (by simp; omega), if_neg (by simp; omega)]

def badRune (r least : Int) : Prop := r < least ∨ 1114111 < r ∨ (55296 ≤ r ∧ r ≤ 57343)

theorem dec_full (s : ByteArray) (p n : Nat) (off least : Int) (hl : Lead s p n off least) (hc : ∀ j, 1 ≤ j → j < n → contOk s (p + j)) :
    (badRune (acc s p (bat s p - off) (n - 1)) least → Utf8.decode s p = (65533, 1)) ∧
    (¬ badRune (acc s p (bat s p - off) (n - 1)) least → Utf8.decode s p = ((acc s p (bat s p - off) (n - 1)).toNat, n)) := by
  rw [dec_eq]
  unfold badRune
  rcases hl with ⟨rfl, rfl, rfl, a, b⟩ | ⟨rfl, rfl, rfl, a, b⟩ | ⟨rfl, rfl, rfl, a, b⟩
  · have c1 := hc 1 (by omega) (by omega)
    have k1 := is_cont _ _ c1
    have q1 := c1.2
    simp only [acc, Nat.zero_add, show (2 : Nat) - 1 = 1 from rfl]
    rw [if_neg (by omega), if_pos (by simp only [k1]; simp; omega)]
    generalize bat s (p + 1) = b1 at *
    generalize bat s p = b0 at *
    constructor
    · intro h; rw [if_neg (by omega)]
    · intro h; rw [if_pos (by omega)]; simp; omega
  · have c1 := hc 1 (by omega) (by omega)
    have c2 := hc 2 (by omega) (by omega)
    have k1 := is_cont _ _ c1
    have k2 := is_cont _ _ c2
    have q1 := c1.2
    have q2 := c2.2
    simp only [acc, Nat.zero_add, show (3 : Nat) - 1 = 2 from rfl, show (1 : Nat) + 1 = 2 from rfl]
    rw [if_neg (by omega), if_neg (by simp; omega), if_pos (by simp only [k1, k2]; simp; omega)]
    generalize bat s (p + 1) = b1 at *
    generalize bat s (p + 2) = b2 at *
    generalize bat s p = b0 at *
    constructor
    · intro h; rw [if_neg (by simp only [Utf8.valid]; simp; omega)]
    · intro h; rw [if_pos (by simp only [Utf8.valid]; simp; omega)]; simp; omega
  · have c1 := hc 1 (by omega) (by omega)
    have c2 := hc 2 (by omega) (by omega)
    have c3 := hc 3 (by omega) (by omega)
    have k1 := is_cont _ _ c1
    have k2 := is_cont _ _ c2
    have k3 := is_cont _ _ c3
    have q1 := c1.2
    have q2 := c2.2
    have q3 := c3.2
    simp only [acc, Nat.zero_add, show (4 : Nat) - 1 = 3 from rfl, show (1 : Nat) + 1 = 2 from rfl, show (2 : Nat) + 1 = 3 from rfl]
    rw [if_neg (by omega), if_neg (by simp; omega), if_neg (by simp; omega), if_pos (by simp only [k1, k2, k3]; simp; omega)]
    generalize bat s (p + 1) = b1 at *
    generalize bat s (p + 2) = b2 at *
    generalize bat s (p + 3) = b3 at *
    generalize bat s p = b0 at *
    constructor
    · intro h; rw [if_neg (by simp only [Utf8.valid]; simp; omega)]
    · intro h; rw [if_pos (by simp only [Utf8.valid]; simp; omega)]; simp; omega

/-- What reading by hand may answer: the number and the width, if a path may have the character; else a number that is none such. -/
def HandR (s : ByteArray) (p : Nat) (r n : Int) : Prop :=
  ((0 ≤ r ∧ pl r.toNat = true) ↔ pl (Utf8.decode s p).1 = true) ∧ (pl (Utf8.decode s p).1 = true → r = (Utf8.decode s p).1 ∧ n = (Utf8.decode s p).2)

theorem handR_bad (s : ByteArray) (p : Nat) (h : Utf8.decode s p = (65533, 1)) : HandR s p (-1) 1 := by
  unfold HandR
  rw [h]
  have : pl 65533 = false := by decide
  simp [this]
theorem handR_good (s : ByteArray) (p : Nat) (r : Int) (n : Nat) (h0 : 0 ≤ r) (h : Utf8.decode s p = (r.toNat, n)) : HandR s p r n := by
  unfold HandR
  rw [h]
  exact ⟨⟨fun h => h.2, fun h => ⟨h0, h⟩⟩, fun _ => ⟨by simp; omega, rfl⟩⟩
end Go.Proofs.YtclekhjnnljjlaaGreatDoor
namespace Go.Proofs.YtclekhjnnljjlaaGreatDoor
open Go.RowKit

theorem bat_drop (s : ByteArray) (i k : Nat) : bat ⟨(s.data.toList.drop i).toArray⟩ k = bat s (i + k) := by
  by_cases h : i + k < s.size
  · have h1 : k < (ByteArray.mk (s.data.toList.drop i).toArray).size := by
      show k < (s.data.toList.drop i).toArray.size
      have : s.size = s.data.size := rfl
      simp; omega
    rw [bat_get _ k h1, bat_get s (i + k) h]
    congr 1
    show (s.data.toList.drop i).toArray[k] = s.data[i + k]
    simp
  · rw [bat_out _ k (by show (s.data.toList.drop i).toArray.size ≤ k; have : s.size = s.data.size := rfl; simp; omega), bat_out s _ (by omega)]

theorem decodeL_drop (s : ByteArray) (i : Nat) (hi : i ≤ s.size) : Lib.decodeL (s.data.toList.drop i) = Utf8.decode s i := by
  unfold Lib.decodeL
  have hs : ∀ k, (k < (ByteArray.mk (s.data.toList.drop i).toArray).size) = (i + k < s.size) := fun k => by
    have e : (ByteArray.mk (s.data.toList.drop i).toArray).size = s.size - i := by
      show (s.data.toList.drop i).toArray.size = _
      have : s.size = s.data.size := rfl
      simp <;> omega
    rw [e]; apply propext; omega
  rw [dec_eq, dec_eq]
  simp only [Nat.zero_add, bat_drop, hs, Nat.add_zero]

def validAt (s : ByteArray) (i : Nat) : Bool := Lib.validD (s.data.toList.drop i)
theorem validAt_zero (s : ByteArray) : validAt s 0 = Lib.validD s.data.toList := by simp [validAt]
theorem validAt_end (s : ByteArray) (i : Nat) (h : s.size ≤ i) : validAt s i = true := by
  unfold validAt
  rw [List.drop_eq_nil_of_le (by have : s.size = s.data.size := rfl; simp; omega)]
  rfl
theorem validAt_bad (s : ByteArray) (i : Nat) (h : i < s.size) (hd : Utf8.decode s i = (65533, 1)) : validAt s i = false := by
  have hsz : s.size = s.data.size := rfl
  unfold validAt
  rw [Lib.validD_step _ (by intro e; have := congrArg List.length e; simp at this; omega), decodeL_drop s i (by omega), hd]
  simp
theorem validAt_good (s : ByteArray) (i : Nat) (h : i < s.size) (hd : Utf8.decode s i ≠ (65533, 1)) : validAt s i = validAt s (i + (Utf8.decode s i).2) := by
  have hsz : s.size = s.data.size := rfl
  unfold validAt
  rw [Lib.validD_step _ (by intro e; have := congrArg List.length e; simp at this; omega), decodeL_drop s i (by omega)]
  rw [if_neg (fun h => hd (Prod.ext h.1 h.2)), List.drop_drop]

/-- How many bytes stand behind a lead, and the range of the first of them. -/
def moreF (b : Nat) : Int × Int × Int :=
  if b < 128 then (0, 0, 0) else if 194 ≤ b ∧ b ≤ 223 then (1, 128, 191) else if b = 224 then (2, 160, 191) else if b = 237 then (2, 128, 159) else if 225 ≤ b ∧ b ≤ 239 then (2, 128, 191)
  else if b = 240 then (3, 144, 191) else if b = 244 then (3, 128, 143) else if 241 ≤ b ∧ b ≤ 243 then (3, 128, 191) else (-1, 0, 0)

def okAt (s : ByteArray) (i : Nat) (lo hi : Int) (j : Nat) : Prop := if j = 1 then lo ≤ bat s (i + 1) ∧ (bat s (i + 1) : Int) ≤ hi else 128 ≤ bat s (i + j) ∧ bat s (i + j) ≤ 191

/-- The eight kinds of a lead. -/
theorem moreF_cases (b : Nat) (hb : b < 256) : (moreF b = (0, 0, 0) ∧ b < 128) ∨ (moreF b = (1, 128, 191) ∧ 194 ≤ b ∧ b ≤ 223) ∨ (moreF b = (2, 160, 191) ∧ b = 224) ∨ (moreF b = (2, 128, 159) ∧ b = 237) ∨ (moreF b = (2, 128, 191) ∧ 225 ≤ b ∧ b ≤ 239 ∧ b ≠ 237) ∨
    (moreF b = (3, 144, 191) ∧ b = 240) ∨ (moreF b = (3, 128, 143) ∧ b = 244) ∨ (moreF b = (3, 128, 191) ∧ 241 ≤ b ∧ b ≤ 243) ∨ (moreF b = (-1, 0, 0) ∧ 128 ≤ b ∧ (b < 194 ∨ 244 < b)) := by
  unfold moreF
  repeat' split
  all_goals (simp <;> omega)

theorem ut_dec (s : ByteArray) (i : Nat) (hi : i < s.size) (n : Nat) (lo h : Int) (hm : moreF (bat s i) = ((n : Int), lo, h)) :
    ((n = 0 ∨ i + n < s.size) → (∀ j, 1 ≤ j → j ≤ n → okAt s i lo h j) → Utf8.decode s i ≠ (65533, 1) ∧ (Utf8.decode s i).2 = n + 1) ∧
    (0 < n → s.size ≤ i + n → Utf8.decode s i = (65533, 1)) ∧
    (∀ j, 1 ≤ j → j ≤ n → i + n < s.size → ¬ okAt s i lo h j → Utf8.decode s i = (65533, 1)) := by
  have b0 := bat_lt s i
  have e := dec_eq s i
  simp only [] at e
  rcases moreF_cases (bat s i) b0 with ⟨k, hb⟩ | ⟨k, hb⟩ | ⟨k, hb⟩ | ⟨k, hb⟩ | ⟨k, hb⟩ | ⟨k, hb⟩ | ⟨k, hb⟩ | ⟨k, hb⟩ | ⟨k, hb⟩
  all_goals
    rw [k] at hm
    simp only [Prod.mk.injEq] at hm
    obtain ⟨hn, rfl, rfl⟩ := hm
    have b1 := bat_lt s (i + 1)
    have b2 := bat_lt s (i + 2)
    have b3 := bat_lt s (i + 3)
  · obtain rfl : n = 0 := by omega
    rw [if_pos hb] at e
    refine ⟨fun _ _ => by rw [e]; simp <;> omega, fun h => by omega, fun j h1 h2 => by omega⟩
  all_goals first
    | (exfalso; omega)
    | skip
  · obtain rfl : n = 1 := by omega
    rw [if_neg (by omega)] at e
    refine ⟨fun h1 h2 => ?_, fun _ h => ?_, fun j h1 h2 h3 h4 => ?_⟩
    · have o1 := h2 1 (by omega) (by omega)
      simp only [okAt, if_true] at o1
      rw [if_pos (by simp; omega), if_pos (by omega)] at e
      rw [e]; simp <;> omega
    · rw [if_neg (by simp; omega), if_neg (by simp; omega), if_neg (by simp; omega)] at e
      exact e
    · obtain rfl : j = 1 := by omega
      simp only [okAt, if_true] at h4
      rw [if_neg (by simp; omega), if_neg (by simp; omega), if_neg (by simp; omega)] at e
      exact e
  iterate 3
    · obtain rfl : n = 2 := by omega
      rw [if_neg (by omega), if_neg (by simp; omega)] at e
      refine ⟨fun h1 h2 => ?_, fun _ h => ?_, fun j h1 h2 h3 h4 => ?_⟩
      · have o1 := h2 1 (by omega) (by omega)
        have o2 := h2 2 (by omega) (by omega)
        simp only [okAt, if_true] at o1
        simp only [okAt, show ¬ (2 : Nat) = 1 from by omega, if_false] at o2
        rw [if_pos (by simp; omega), if_pos (by simp only [Utf8.valid]; simp; omega)] at e
        rw [e]; simp <;> omega
      · rw [if_neg (by simp; omega), if_neg (by simp; omega)] at e
        exact e
      · have hj : ¬ (128 ≤ bat s (i + 1) ∧ bat s (i + 1) ≤ 191 ∧ 128 ≤ bat s (i + 2) ∧ bat s (i + 2) ≤ 191) ∨ (bat s i = 224 ∧ bat s (i + 1) < 160) ∨ (bat s i = 237 ∧ 159 < bat s (i + 1)) := by
          rcases (by omega : j = 1 ∨ j = 2) with rfl | rfl
          · simp only [okAt, if_true] at h4; omega
          · simp only [okAt, show ¬ (2 : Nat) = 1 from by omega, if_false] at h4; omega
        by_cases hc : 128 ≤ bat s (i + 1) ∧ bat s (i + 1) ≤ 191 ∧ 128 ≤ bat s (i + 2) ∧ bat s (i + 2) ≤ 191
        · rw [if_pos (by simp; omega), if_neg (by simp only [Utf8.valid]; simp; omega)] at e
          exact e
        · rw [if_neg (by simp; omega), if_neg (by simp; omega)] at e
          exact e
  all_goals
    obtain rfl : n = 3 := by omega
    rw [if_neg (by omega), if_neg (by simp; omega), if_neg (by simp; omega)] at e
    refine ⟨fun h1 h2 => ?_, fun _ h => ?_, fun j h1 h2 h3 h4 => ?_⟩
    · have o1 := h2 1 (by omega) (by omega)
      have o2 := h2 2 (by omega) (by omega)
      have o3 := h2 3 (by omega) (by omega)
      simp only [okAt, if_true] at o1
      simp only [okAt, show ¬ (2 : Nat) = 1 from by omega, if_false] at o2
      simp only [okAt, show ¬ (3 : Nat) = 1 from by omega, if_false] at o3
      rw [if_pos (by simp; omega), if_pos (by simp only [Utf8.valid]; simp; omega)] at e
      rw [e]; simp <;> omega
    · rw [if_neg (by simp; omega)] at e
      exact e
    · have hj : ¬ (128 ≤ bat s (i + 1) ∧ bat s (i + 1) ≤ 191 ∧ 128 ≤ bat s (i + 2) ∧ bat s (i + 2) ≤ 191 ∧ 128 ≤ bat s (i + 3) ∧ bat s (i + 3) ≤ 191) ∨ (bat s i = 240 ∧ bat s (i + 1) < 144) ∨ (bat s i = 244 ∧ 143 < bat s (i + 1)) := by
        rcases (by omega : j = 1 ∨ j = 2 ∨ j = 3) with rfl | rfl | rfl
        · simp only [okAt, if_true] at h4; omega
        · simp only [okAt, show ¬ (2 : Nat) = 1 from by omega, if_false] at h4; omega
        · simp only [okAt, show ¬ (3 : Nat) = 1 from by omega, if_false] at h4; omega
      by_cases hc : 128 ≤ bat s (i + 1) ∧ bat s (i + 1) ≤ 191 ∧ 128 ≤ bat s (i + 2) ∧ bat s (i + 2) ≤ 191 ∧ 128 ≤ bat s (i + 3) ∧ bat s (i + 3) ≤ 191
      · rw [if_pos (by simp; omega), if_neg (by simp only [Utf8.valid]; simp; omega)] at e
        exact e
      · rw [if_neg (by simp; omega)] at e
        exact e

theorem ut_none (s : ByteArray) (i : Nat) (lo h : Int) (hm : moreF (bat s i) = (-1, lo, h)) : Utf8.decode s i = (65533, 1) := by
  have b0 := bat_lt s i
  have b1 := bat_lt s (i + 1)
  have b2 := bat_lt s (i + 2)
  have b3 := bat_lt s (i + 3)
  have e := dec_eq s i
  simp only [] at e
  rcases moreF_cases (bat s i) b0 with ⟨k, hb⟩ | ⟨k, hb⟩ | ⟨k, hb⟩ | ⟨k, hb⟩ | ⟨k, hb⟩ | ⟨k, hb⟩ | ⟨k, hb⟩ | ⟨k, hb⟩ | ⟨k, hb⟩
  iterate 8 (· rw [k] at hm; simp at hm)
  rw [e, if_neg (by omega)]
  rcases hb.2 with h2 | h2
  · by_cases h3 : 192 ≤ bat s i
    · by_cases h4 : (decide (i + 1 < s.size) && bat s (i + 1) / 64 == 2) = true
      · rw [if_pos (by simp at h4 ⊢; omega), if_neg (by omega)]
      · rw [if_neg (by simp at h4 ⊢; omega), if_neg (by simp; omega), if_neg (by simp; omega)]
    · rw [if_neg (by simp; omega), if_neg (by simp; omega), if_neg (by simp; omega)]
  · rw [if_neg (by simp; omega), if_neg (by simp; omega)]
    split
    · rename_i hh
      simp at hh
      rw [if_neg (by simp only [Utf8.valid]; simp; omega)]
    · rfl
end Go.Proofs.YtclekhjnnljjlaaGreatDoor
namespace Go.Proofs.YtclekhjnnljjlaaGreatDoor
open Go.RowKit
set_option maxHeartbeats 400000
set_option maxRecDepth 100000

theorem acCs_get (l : List Ac) (k : Nat) (h : k < l.length) : (acCs l)[k * 3]? = some (.int .i32 l[k].perms) ∧ (acCs l)[k * 3 + 1]? = some (.string l[k].scheme) ∧ (acCs l)[k * 3 + 2]? = some (.string l[k].id) := by
  induction l generalizing k with
  | nil => simp at h
  | cons x l ih =>
    cases k with
    | zero => simp [acCs, acC]
    | succ k =>
      have e : ∀ j, (acCs (x :: l))[(k + 1) * 3 + j]? = (acCs l)[k * 3 + j]? := fun j => by
        rw [show (k + 1) * 3 + j = k * 3 + j + 3 from by omega]
        simp only [acCs, List.flatMap_cons]
        rw [List.getElem?_append_right (by simp [acC])]
        simp [acC]
      have i := ih k (by simpa using h)
      exact ⟨by have := e 0; simp only [Nat.add_zero] at this; rw [this]; exact i.1, by rw [e 1]; exact i.2.1, by rw [e 2]; exact i.2.2⟩

/-- The k-th entry's three cells. -/
theorem acCells {B : Nat} {w : World} {a : Option Addr} {l : List Ac} (h : Cells B w a (acCs l)) (k : Nat) (hk : k < l.length) :
    ∃ b off, a = some ⟨b, off, none⟩ ∧ b < B ∧ w.cell? ⟨b, off + k * 3, none⟩ = some (.int .i32 l[k].perms) ∧ w.cell? ⟨b, off + k * 3 + 1, none⟩ = some (.string l[k].scheme) ∧ w.cell? ⟨b, off + k * 3 + 2, none⟩ = some (.string l[k].id) := by
  obtain ⟨g0, g1, g2⟩ := acCs_get l k hk
  obtain ⟨b, off, rfl, hb, c0⟩ := h _ _ g0
  obtain ⟨b1, off1, e1, _, c1⟩ := h _ _ g1
  obtain ⟨b2, off2, e2, _, c2⟩ := h _ _ g2
  simp only [Option.some.injEq, Addr.mk.injEq] at e1 e2
  obtain ⟨rfl, rfl, _⟩ := e1
  obtain ⟨rfl, rfl, _⟩ := e2
  exact ⟨b, off, rfl, hb, c0, by rw [Nat.add_assoc]; exact c1, by rw [Nat.add_assoc]; exact c2⟩

def IdxOut (p : Ac → Bool) (l : List Ac) (w : World) (e : Ending) (w' : World) : Prop := ∃ i : Int, e = .returned (.int .i64 i) ∧ (decide (0 ≤ i) = l.any p) ∧ Below w.heap.size w w'

theorem index_any (g : FuncId) (p : Ac → Bool) (a : Option Addr) (n c : Nat) (l : List Ac) (w : World) (hc : Cells w.heap.size w a (acCs l)) (hn : n = l.length) (hm : l.length ≤ 9223372036854775807)
    (hen : ∀ args w, (callFunc g args).run Tryz.prog w = .ok (.enter g args) w) (hg : Hid (∀ x ∈ l, ∀ w', Below w.heap.size w w' → Calls Tryz.prog g #[.agg #[.int .i32 x.perms, .string x.scheme, .string x.id]] w' fun e w'' => e = .returned (.bool (p x)) ∧ Below w'.heap.size w' w'')) :
    Calls Tryz.prog 104 #[.slice a n c, .func (.func g) #[] #[]] w (IdxOut p l w) := by
  subst hn
  go_enter Tryz.func104, Tryz.ntmps104
  go_wp2
  go_loopw [8] (fun i wr => ∃ k : Nat, k ≤ l.length ∧ i = .int .i64 k ∧ Hid (∀ j (h : j < l.length), j < k → p l[j] = false) ∧ Below w.heap.size w wr) (fun i _ => l.length - (intOf i).toNat)
  case atStart => exact ⟨0, Nat.zero_le _, rfl, fun j _ h => by omega, Below.refl _ _⟩
  case round =>
    obtain ⟨k, hk, rfl, HP, hB⟩ := hrel
    by_cases hlt : k < l.length
    · obtain ⟨b, off, rfl, hb, c0, c1, c2⟩ := acCells (hc.below hB) k hlt
      have hx : l[k] ∈ l := List.getElem_mem hlt
      have hcall := hg.out l[k] hx wr hB
      by_cases hp : p l[k] = true
      · have H : Hid (decide ((0 : Int) ≤ (k : Int)) = l.any p) := by
          show _ = _
          rw [show decide ((0 : Int) ≤ (k : Int)) = true from by simp]
          exact (List.any_eq_true.2 ⟨l[k], hx, hp⟩).symm
        rw [hp] at hcall
        go_wp2_with fail
        refine hcall.mono ?_
        rintro e w' ⟨rfl, hB'⟩
        have hBw : Below w.heap.size w w' := hB.trans (hB'.mono hB.size)
        clear hcall hB hB' c0 c1 c2 hp
        go_wp2
        go_ret
        exact ⟨k, rfl, H, hBw⟩
      · have hpf : p l[k] = false := by simpa using hp
        have HN : Hid (∀ j (h : j < l.length), j < k + 1 → p l[j] = false) := fun j h hj => by
          by_cases e : j = k
          · subst e; exact hpf
          · exact HP.out j h (by omega)
        rw [hpf] at hcall
        go_wp2_with fail
        refine hcall.mono ?_
        rintro e w' ⟨rfl, hB'⟩
        have hBw : Below w.heap.size w w' := hB.trans (hB'.mono hB.size)
        clear hcall hB hB' c0 c1 c2 hp hpf
        go_wp2
        go_roundw
        case rel => exact ⟨k + 1, by omega, by go_num, HN, hBw⟩
        case measure => simp [intOf]; omega
    · have H : Hid (decide ((0 : Int) ≤ -1) = l.any p) := by
        show _ = _
        rw [show decide ((0 : Int) ≤ -1) = false from by decide]
        refine (List.any_eq_false.2 fun x hx => ?_).symm
        obtain ⟨j, hj, rfl⟩ := List.mem_iff_getElem.1 hx
        rw [HP.out j hj (by omega)]; simp
      go_wp2
      go_ret
      exact ⟨-1, rfl, H, hB⟩

theorem contains_any (g : FuncId) (p : Ac → Bool) (a : Option Addr) (n c : Nat) (l : List Ac) (w : World) (hc : Cells w.heap.size w a (acCs l)) (hn : n = l.length) (hm : l.length ≤ 9223372036854775807)
    (hen : ∀ args w, (callFunc g args).run Tryz.prog w = .ok (.enter g args) w) (hg : Hid (∀ x ∈ l, ∀ w', Below w.heap.size w w' → Calls Tryz.prog g #[.agg #[.int .i32 x.perms, .string x.scheme, .string x.id]] w' fun e w'' => e = .returned (.bool (p x)) ∧ Below w'.heap.size w' w'')) :
    Calls Tryz.prog 67 #[.slice a n c, .func (.func g) #[] #[]] w fun e w' => e = .returned (.bool (l.any p)) ∧ Below w.heap.size w w' := by
  subst hn
  have HI := index_any g p a _ c l w hc rfl hm hen hg
  clear hen hg hc
  go_enter Tryz.func67, Tryz.ntmps67
  go_wp2_with fail
  refine HI.mono ?_
  rintro e w' ⟨i, rfl, hi, hB⟩
  have Hi := Lib.hid hi
  clear HI hi
  go_wp2
  go_ret
  exact ⟨by rw [← Hi.out]; rfl, hB⟩

/-- The two tables of the library's that its own look at texts reads. -/
def Tabs (w : World) : Prop := Lib.Utf8Tabs (Tryz.lays196_ren.g 3) (Tryz.lays196_ren.g 4) w

theorem validS_any (s : ByteArray) (w : World) (hs : s.size ≤ 9223372036854775807) (hT : Tabs w) :
    Calls Tryz.prog 70 #[.string s] w fun e w' => e = .returned (.bool (Lib.validD s.data.toList)) ∧ Below w.heap.size w w' := Any.utf8_ValidString Tryz.lays196 s w hs hT

def bigAc (x : Ac) : Bool := decide (256 < x.scheme.size) || decide (256 < x.id.size)
def badAc (x : Ac) : Bool := !Lib.validD x.scheme.data.toList || !Lib.validD x.id.data.toList

theorem big_any (x : Ac) (w : World) (h1 : x.scheme.size ≤ 9223372036854775807) (h2 : x.id.size ≤ 9223372036854775807) :
    Calls Tryz.prog 68 #[.agg #[.int .i32 x.perms, .string x.scheme, .string x.id]] w fun e w' => e = .returned (.bool (bigAc x)) ∧ Below w.heap.size w w' := by
  go_enter Tryz.func68, Tryz.ntmps68
  by_cases h : 256 < (x.scheme.size : Int)
  · have H : Hid (bigAc x = true) := by unfold Hid bigAc; simp; omega
    go_wp2
    go_ret
    exact ⟨by rw [H.out]; rfl, (Below.refl _ _).alloc (Nat.le_refl _) _⟩
  · have H : Hid (bigAc x = decide (256 < (x.id.size : Int))) := by
      unfold Hid bigAc
      have : ¬ 256 < x.scheme.size := by omega
      simp [this]; omega
    have h' : decide (256 < (x.scheme.size : Int)) = false := by simpa using h
    go_wp2
    go_ret
    exact ⟨by rw [H.out]; rfl, (Below.refl _ _).alloc (Nat.le_refl _) _⟩

theorem Tabs.size {w : World} (h : Tabs w) : 2 ≤ w.heap.size := by
  have := block_lt_of_cell (h.2 0 (by omega)).1
  exact this
theorem Tabs.below {B : Nat} {w w' : World} (h : Tabs w) (hb : Below B w w') (hB : 2 ≤ B) : Tabs w' :=
  ⟨fun c hc => (hb.cell (p := ⟨0, c, none⟩) (by show 0 < B; omega)).trans (h.1 c hc),
   fun i hi => ⟨(hb.cell (p := ⟨1, 2 * i, none⟩) (by show 1 < B; omega)).trans (h.2 i hi).1, (hb.cell (p := ⟨1, 2 * i + 1, none⟩) (by show 1 < B; omega)).trans (h.2 i hi).2⟩⟩

theorem bad_any (x : Ac) (w : World) (h1 : x.scheme.size ≤ 9223372036854775807) (h2 : x.id.size ≤ 9223372036854775807) (hT : Tabs w) :
    Calls Tryz.prog 69 #[.agg #[.int .i32 x.perms, .string x.scheme, .string x.id]] w fun e w' => e = .returned (.bool (badAc x)) ∧ Below w.heap.size w w' := by
  have hsz := hT.size
  have hTb : Hid (∀ w', Below w.heap.size w w' → Tabs w') := fun w' hb => hT.below hb hsz
  have hb0 : Below w.heap.size w (w.alloc (.cells #[.int .i32 x.perms, .string x.scheme, .string x.id] 146)) := (Below.refl _ _).alloc (Nat.le_refl _) _
  have hc2 : (w.alloc (.cells #[.int .i32 x.perms, .string x.scheme, .string x.id] 146)).cell? ⟨w.heap.size, 2, none⟩ = some (.string x.id) := by
    rw [World.cell?_alloc_at _ _ _ _ rfl]; rfl
  by_cases h : Lib.validD x.scheme.data.toList = true
  · have H : Hid (badAc x = !Lib.validD x.id.data.toList) := by unfold Hid badAc; simp [h]
    have C1 := fun w hT => validS_any x.scheme w h1 hT
    simp only [h] at C1
    have C1 := Lib.hid C1
    clear h
    go_enter Tryz.func69, Tryz.ntmps69
    go_wp2_with fail
    refine (C1.out _ (hTb.out _ hb0)).mono ?_
    rintro e w1 ⟨rfl, hb1⟩
    have hb2 : Below w.heap.size w w1 := hb0.trans (hb1.mono (by simp))
    have hcc : w1.cell? ⟨w.heap.size, 2, none⟩ = some (.string x.id) := (hb1.cell (p := ⟨w.heap.size, 2, none⟩) (by simp)).trans hc2
    have hT1 := hTb.out _ hb2
    clear hb0 hb1 hc2 hTb
    go_wp2_with fail
    refine (validS_any x.id _ h2 hT1).mono ?_
    rintro e w2 ⟨rfl, hb3⟩
    have hb4 : Below w.heap.size w w2 := hb2.trans (hb3.mono hb2.size)
    clear hb2 hb3 hcc hT1
    go_wp2
    go_ret
    exact ⟨by rw [H.out]; rfl, hb4⟩
  · have H : Hid (badAc x = true) := by unfold Hid badAc; simp [h]
    have h' : Lib.validD x.scheme.data.toList = false := by simpa using h
    have C1 := fun w hT => validS_any x.scheme w h1 hT
    simp only [h'] at C1
    have C1 := Lib.hid C1
    clear h h'
    go_enter Tryz.func69, Tryz.ntmps69
    go_wp2_with fail
    refine (C1.out _ (hTb.out _ hb0)).mono ?_
    rintro e w1 ⟨rfl, hb1⟩
    have hb2 : Below w.heap.size w w1 := hb0.trans (hb1.mono (by simp))
    clear hb0 hb1 hc2 hTb
    go_wp2
    go_ret
    exact ⟨by rw [H.out]; rfl, hb2⟩

/-- A node. -/
structure Nd where
  path : ByteArray
  data : List UInt8
  acl : List Ac
  owner : Int
  czxid : Int
  mzxid : Int
  pzxid : Int
  azxid : Int
  qzxid : Int
  ctime : Int
  mtime : Int
  version : Int
  creates : Int
  aversion : Int
  has : Bool
  count : Int
  bytes : Int

/-- A node's seventeen cells: the two slices apart. -/
def ndC (n : Nd) (d a : Value) : Array Value :=
  #[.string n.path, d, a, .int .i64 n.owner, .int .i64 n.czxid, .int .i64 n.mzxid, .int .i64 n.pzxid, .int .i64 n.azxid, .int .i64 n.qzxid, .int .i64 n.ctime, .int .i64 n.mtime, .int .i32 n.version, .int .i32 n.creates, .int .i32 n.aversion, .bool n.has, .int .i64 n.count, .int .i64 n.bytes]

def badQ (n : Nd) : Bool := (!n.has && (n.count != 0 || n.bytes != 0)) || (n.has && (decide (n.count < -1) || decide (n.bytes < -1)))

/-- May a node be: 0, or the number of what is wrong. -/
def rightN (n : Nd) : Int :=
  if !vpath n.path then 30 else if 1048575 < n.data.length ∨ 16 < n.acl.length ∨ n.acl.any bigAc = true then 3 else if n.acl.any badAc then 1 else if badQ n then 1 else 0

/-- What is known of any node's sizes. -/
structure Fit (n : Nd) : Prop where
  path : n.path.size ≤ 9223372036854775800
  data : n.data.length ≤ 140737488355328
  acl : n.acl.length * 40 ≤ 140737488355328
  texts : ∀ x ∈ n.acl, x.scheme.size ≤ 9223372036854775800 ∧ x.id.size ≤ 9223372036854775800

end Go.Proofs.YtclekhjnnljjlaaGreatDoor
