/- Plain laws on characters and paths: which bytes are a path. No program in sight. Plain laws on memory: cells that a slice shows; an append from whatever source to a row of the call's own. The walks of package runes: the kind of a character; the first one that no path may have. The walks of the writer: bytes behind bytes. The walks of the writer, more: numbers, texts, lists. The walks of the three clones of slices. The walks of package paths up to Valid: whether a text is a path. Plain laws: a character read by hand, as the document's reference reads it, is the model's decoding. Plain laws: texts that are UTF-8, as the reference looks at them byte by byte. The walks of stat.Right and of its reference: may a node be. The walk of stat.Right. The walk of stat.Encode: a node's record. The walks of stat.Encode's entry, and of a list of entries. The walk of stat.Encode. A node's value in memory. What a law's arguments are, opened: bytes, lists of rights, nodes. -/
import Derived.Laws.RangeAny
import Derived.RowKit
import Derived.WalkKit
import Derived.WalkSpells
import Derived.Deep.AppendSrc
import Derived.Lib.Hide
import Derived.Test.YthinpbdbhijbgaaGreatDoorShelf
import Derived.WalkLawsBesides
import Derived.Deep.Light
import Derived.Lib.IndexLaws
import Derived.Deep.QuietTactic
import Derived.BigQuiet
import Derived.Lib.ValidLaws
import Derived.ProofKit
import Derived.SizedLaws
import Derived.Deep.Slices
import Derived.Deep.Strs
namespace Go.Proofs.YthinpbdbhijbgaaGreatDoor
open Go.RowKit

/-- A character that a path may have. -/
def pl (r : Nat) : Bool := (32 ≤ r && r ≤ 126) || (160 ≤ r && r < 55296) || (63744 ≤ r && r < 65520)

/-- The byte at a place, 0 behind the end. -/
def bat (s : ByteArray) (i : Nat) : Nat := (s.get! i).toNat

theorem bat_lt (s : ByteArray) (i : Nat) : bat s i < 256 := UInt8.toNat_lt _

theorem bat_get (s : ByteArray) (i : Nat) (h : i < s.size) : bat s i = (s[i]'h).toNat := by
  have := Go.get_at s i h; simp only [Nat.add_zero] at this; unfold bat; rw [this]

theorem dec_eq (s : ByteArray) (i : Nat) : Utf8.decode s i =
  let cont (k : Nat) : Bool := i + k < s.size && bat s (i + k) / 64 == 2
  if bat s i < 0x80 then (bat s i, 1)
  else if bat s i / 32 == 6 && cont 1 then
    let c := (bat s i % 32) * 64 + bat s (i + 1) % 64
    if c ≥ 0x80 then (c, 2) else (65533, 1)
  else if bat s i / 16 == 14 && cont 1 && cont 2 then
    let c := (bat s i % 16) * 4096 + (bat s (i + 1) % 64) * 64 + bat s (i + 2) % 64
    if c ≥ 0x800 && Utf8.valid c then (c, 3) else (65533, 1)
  else if bat s i / 8 == 30 && cont 1 && cont 2 && cont 3 then
    let c := (bat s i % 8) * 262144 + (bat s (i + 1) % 64) * 4096 + (bat s (i + 2) % 64) * 64 + bat s (i + 3) % 64
    if c ≥ 0x10000 && Utf8.valid c then (c, 4) else (65533, 1)
  else (65533, 1) := rfl

/-- What a decoding says of its place. -/
structure Dec (s : ByteArray) (p : Nat) : Prop where
  pos : 1 ≤ (Utf8.decode s p).2
  fits : p + (Utf8.decode s p).2 ≤ s.size
  tail : ∀ k, 0 < k → k < (Utf8.decode s p).2 → 128 ≤ bat s (p + k)
  one : (Utf8.decode s p).2 = 1 → (Utf8.decode s p).1 ≠ 65533 → (Utf8.decode s p).1 = bat s p ∧ bat s p < 128
  more : (Utf8.decode s p).2 ≠ 1 → 128 ≤ (Utf8.decode s p).1 ∧ 128 ≤ bat s p
  ascii : bat s p < 128 → Utf8.decode s p = (bat s p, 1)

theorem dec (s : ByteArray) (p : Nat) (h : p < s.size) : Dec s p := by
  have e := dec_eq s p
  simp only [] at e
  have asc : bat s p < 128 → Utf8.decode s p = (bat s p, 1) := fun h => by rw [e, if_pos h]
  by_cases h0 : bat s p < 128
  · have := asc h0
    exact ⟨by rw [this]; simp, by rw [this]; simp; omega, by rw [this]; intro k h1 h2; simp at h2; omega, by rw [this]; simp [h0], by rw [this]; simp, asc⟩
  · rw [if_neg h0] at e
    have b1 := bat_lt s (p+1); have b2 := bat_lt s (p+2); have b3 := bat_lt s (p+3); have b0 := bat_lt s p
    split at e
    · rename_i h1
      simp only [Bool.and_eq_true, beq_iff_eq, decide_eq_true_eq] at h1
      split at e <;> (refine ⟨by rw [e]; simp, by rw [e]; simp; omega, ?_, by rw [e]; simp, by rw [e]; simp; try omega, asc⟩; rw [e]; intro k k1 k2; simp at k2; try omega)
      · obtain rfl : k = 1 := by omega
        omega
    · split at e
      · rename_i h1
        simp only [Bool.and_eq_true, beq_iff_eq, decide_eq_true_eq] at h1
        split at e
        · rename_i h2
          simp only [Bool.and_eq_true, decide_eq_true_eq] at h2
          refine ⟨by rw [e]; simp, by rw [e]; simp; omega, ?_, by rw [e]; simp, by rw [e]; simp; omega, asc⟩
          rw [e]; intro k k1 k2; simp at k2
          rcases (by omega : k = 1 ∨ k = 2) with rfl | rfl <;> omega
        · refine ⟨by rw [e]; simp, by rw [e]; simp; omega, ?_, by rw [e]; simp, by rw [e]; simp, asc⟩
          rw [e]; intro k k1 k2; simp at k2; omega
      · split at e
        · rename_i h1
          simp only [Bool.and_eq_true, beq_iff_eq, decide_eq_true_eq] at h1
          split at e
          · rename_i h2
            simp only [Bool.and_eq_true, decide_eq_true_eq] at h2
            refine ⟨by rw [e]; simp, by rw [e]; simp; omega, ?_, by rw [e]; simp, by rw [e]; simp; omega, asc⟩
            rw [e]; intro k k1 k2; simp at k2
            rcases (by omega : k = 1 ∨ k = 2 ∨ k = 3) with rfl | rfl | rfl <;> omega
          · refine ⟨by rw [e]; simp, by rw [e]; simp; omega, ?_, by rw [e]; simp, by rw [e]; simp, asc⟩
            rw [e]; intro k k1 k2; simp at k2; omega
        · refine ⟨by rw [e]; simp, by rw [e]; simp; omega, ?_, by rw [e]; simp, by rw [e]; simp, asc⟩
          rw [e]; intro k k1 k2; simp at k2; omega

/-- The first character, from a place on, that no path may have; -1: none. -/
def fb (s : ByteArray) : Nat → Nat → Int
  | 0, _ => -1
  | f + 1, p => if p < s.size then (if pl (Utf8.decode s p).1 then fb s f (p + (Utf8.decode s p).2) else p) else -1

/-- The part that begins at a place. -/
def partL (s : ByteArray) (p : Nat) : List UInt8 := (s.data.toList.drop p).takeWhile (· != 47)

/-- The part that begins at a place is one or two dots. -/
def dots (s : ByteArray) (p : Nat) : Bool := partL s p == [46] || partL s p == [46, 46]

/-- What must be so at a slash. -/
def sep (s : ByteArray) (p : Nat) : Bool := bat s p != 47 || (!(0 < p && bat s (p - 1) == 47) && !dots s (p + 1))

/-- From a place on all characters are good, and all slashes. -/
def scan (s : ByteArray) : Nat → Nat → Bool
  | 0, _ => true
  | f + 1, p => if p < s.size then pl (Utf8.decode s p).1 && sep s p && scan s f (p + (Utf8.decode s p).2) else true

/-- A path. -/
def vpath (s : ByteArray) : Bool :=
  s.size != 0 && s.size ≤ 4096 && bat s 0 == 47 && (s.size == 1 || (bat s (s.size - 1) != 47 && scan s s.size 0))

/-- fuel does not matter -/
theorem scan_fuel (s : ByteArray) : ∀ (f g p : Nat), s.size ≤ p + f → s.size ≤ p + g → scan s f p = scan s g p
  | 0, 0, p, _, _ => rfl
  | 0, g + 1, p, hf, _ => by
    have : ¬ p < s.size := by omega
    simp only [scan, if_neg this]
  | f + 1, 0, p, _, hg => by
    have : ¬ p < s.size := by omega
    simp only [scan, if_neg this]
  | f + 1, g + 1, p, hf, hg => by
    simp only [scan]
    by_cases hp : p < s.size
    · have d := (dec s p hp).pos
      rw [if_pos hp, if_pos hp, scan_fuel s f g _ (by omega) (by omega)]
    · rw [if_neg hp, if_neg hp]

theorem fb_fuel (s : ByteArray) : ∀ (f g p : Nat), s.size ≤ p + f → s.size ≤ p + g → fb s f p = fb s g p
  | 0, 0, p, _, _ => rfl
  | 0, g + 1, p, hf, _ => by
    have : ¬ p < s.size := by omega
    simp only [fb, if_neg this]
  | f + 1, 0, p, _, hg => by
    have : ¬ p < s.size := by omega
    simp only [fb, if_neg this]
  | f + 1, g + 1, p, hf, hg => by
    simp only [fb]
    by_cases hp : p < s.size
    · have d := (dec s p hp).pos
      rw [if_pos hp, if_pos hp, fb_fuel s f g _ (by omega) (by omega)]
    · rw [if_neg hp, if_neg hp]

/-- The scan from a place on, with fuel enough. -/
def scanAt (s : ByteArray) (p : Nat) : Bool := scan s s.size p
def fbAt (s : ByteArray) (p : Nat) : Int := fb s s.size p

theorem scanAt_step (s : ByteArray) (p : Nat) (h : p < s.size) : scanAt s p = (pl (Utf8.decode s p).1 && sep s p && scanAt s (p + (Utf8.decode s p).2)) := by
  have d := (dec s p h).pos
  unfold scanAt
  rw [scan_fuel s s.size (s.size + 1) p (by omega) (by omega)]
  simp only [scan, if_pos h]
theorem scanAt_end (s : ByteArray) (p : Nat) (h : s.size ≤ p) : scanAt s p = true := by
  unfold scanAt
  rw [scan_fuel s s.size 0 p (by omega) (by omega)]; rfl
theorem fbAt_step (s : ByteArray) (p : Nat) (h : p < s.size) : fbAt s p = if pl (Utf8.decode s p).1 then fbAt s (p + (Utf8.decode s p).2) else p := by
  have d := (dec s p h).pos
  unfold fbAt
  rw [fb_fuel s s.size (s.size + 1) p (by omega) (by omega)]
  simp only [fb, if_pos h]
theorem fbAt_end (s : ByteArray) (p : Nat) (h : s.size ≤ p) : fbAt s p = -1 := by
  unfold fbAt
  rw [fb_fuel s s.size 0 p (by omega) (by omega)]; rfl
theorem fbAt_ge (s : ByteArray) (p : Nat) : fbAt s p = -1 ∨ (p : Int) ≤ fbAt s p := by
  generalize hn : s.size - p = n
  induction n using Nat.strongRecOn generalizing p with
  | ind n ih =>
    by_cases h : p < s.size
    · rw [fbAt_step s p h]
      have d := (dec s p h).pos
      split
      · rcases ih (s.size - (p + (Utf8.decode s p).2)) (by omega) _ rfl with h1 | h1
        · exact .inl h1
        · right; omega
      · right; omega
    · left; exact fbAt_end s p (by omega)
end Go.Proofs.YthinpbdbhijbgaaGreatDoor
namespace Go.Proofs.YthinpbdbhijbgaaGreatDoor
open Go.RowKit

def u8v (b : UInt8) : Value := .int .u8 b.toNat

/-- The cells that a slice shows, all below a block number. -/
def Cells (B : Nat) (w : World) (a : Option Addr) (xs : List Value) : Prop :=
  ∀ j u, xs[j]? = some u → ∃ b off, a = some ⟨b, off, none⟩ ∧ b < B ∧ w.cell? ⟨b, off + j, none⟩ = some u

theorem Cells.nil (B : Nat) (w : World) (a : Option Addr) : Cells B w a [] := fun j u h => by simp at h
theorem Cells.below {B : Nat} {w w' : World} {a : Option Addr} {xs : List Value} (h : Cells B w a xs) (hb : Below B w w') : Cells B w' a xs := fun j u hj => by
  obtain ⟨b, off, ha, hlt, hc⟩ := h j u hj
  exact ⟨b, off, ha, hlt, (hb.cell (p := ⟨b, off + j, none⟩) hlt).trans hc⟩
theorem Cells.mono {B B' : Nat} {w : World} {a : Option Addr} {xs : List Value} (h : Cells B w a xs) (hB : B ≤ B') : Cells B' w a xs := fun j u hj => by
  obtain ⟨b, off, ha, hlt, hc⟩ := h j u hj
  exact ⟨b, off, ha, by omega, hc⟩
theorem Cells.at {B : Nat} {w : World} {a : Option Addr} {xs : List Value} (h : Cells B w a xs) (j : Nat) (hj : j < xs.length) : ∃ b off, a = some ⟨b, off, none⟩ ∧ b < B ∧ w.cell? ⟨b, off + j, none⟩ = some xs[j] :=
  h j xs[j] (List.getElem?_eq_getElem hj)

theorem Cells.src {P : Program} {size : Nat} {tx e' : TypeId} (hk : P.underlying tx = some (.slice e')) {B : Nat} {w : World} {a : Option Addr} (n c : Nat) {xs : List Value} (h : Cells B w a xs)
    (hl : xs.length = n * size) (h1 : ∀ u ∈ xs, u.oneCell' = true) : Src P size tx (.slice a n c) n xs w := by
  cases a with
  | some p =>
    refine Src.ofSlice w hk p n c xs hl (fun j u hj => ?_) h1
    obtain ⟨b, off, ha, _, hc⟩ := h j u hj
    obtain rfl : p = ⟨b, off, none⟩ := Option.some.inj ha
    rw [show (⟨b, off, none⟩ : Addr).add j = ⟨b, off + j, none⟩ from by unfold Addr.add; split <;> simp_all]
    exact hc
  | none =>
    have hx : xs = [] := by
      cases xs with
      | nil => rfl
      | cons u l => obtain ⟨_, _, ha, _⟩ := h 0 u rfl; cases ha
    subst hx
    refine ⟨.inl ⟨e', hk⟩, fun _ => rfl, ?_, ?_, hl, fun _ h => by cases h⟩
    · simp [Builtin.firstCells]
    · simp [Builtin.firstCells]

section
variable {P : Program} (w : World)

theorem run_append_own_src (base : Nat) (t tx ty e : TypeId) (i : TypeInfo) (z : Value) (size bytes : Nat) (ht : P.underlying t = some (.slice e)) (hi : P.info? e = some i) (hz : i.zero = some z)
    (hsize : i.size = size) (hby : i.bytes = bytes) (hzs : z.cells.size = size) (hsz : 0 < size)
    (v : Value) (n : Nat) (xs : List Value) (hown : w.ownsRow base e size v n xs)
    (x : Value) (m : Nat) (news : List Value) (hs : Src P size tx x m news w)
    (h63 : n + m ≤ maxLen) (hbytes : (n + m) * bytes ≤ 140737488355328) (hbase : base ≤ w.heap.size) :
    ∃ v' w', (Builtin.append_ #[t, tx] ty #[v, x]).run P w = .ok v' w' ∧ w'.ownsRow base e size v' (n + m) (xs ++ news) ∧ w.grownBy w' v.ownBlock ∧
      (v' = .slice none 0 0 ↔ v = .slice none 0 0 ∧ m = 0) ∧ (v'.ownBlock = v.ownBlock ∨ v'.ownBlock = some w.heap.size) := by
  subst hsize
  subst hby
  have hl := hs.newsLen
  have hsmall : n + m ≤ 9223372036854775807 := by simp only [maxLen] at h63; omega
  have hlen : (xs ++ news).length = (n + m) * i.size := by rw [List.length_append, hown.1, hl, Nat.add_mul]
  have grown : ∀ (old : Nat), old < n + m → ∀ (row : Option Nat),
      (w.drew.alloc (.cells ((xs ++ news).toArray ++ Builtin.zeroCells z.cells (grownCap w (n + m) old e - (n + m))) e)).ownsRow base e i.size
        (.slice (some ⟨w.heap.size, 0, none⟩) (n + m) (grownCap w (n + m) old e)) (n + m) (xs ++ news) ∧
      w.grownBy (w.drew.alloc (.cells ((xs ++ news).toArray ++ Builtin.zeroCells z.cells (grownCap w (n + m) old e - (n + m))) e)) row := by
    intro old ho row
    have hge := grownCap_ge w (n + m) old e
    have hcm : grownCap w (n + m) old e ≤ maxLen := grownCap_le_maxLen w (n + m) old e h63
    refine ⟨⟨hlen, .inr ⟨w.heap.size, _, _, rfl, hbase, heap_alloc_new w.drew _, hge, hcm, ?_, ?_⟩⟩, ⟨rfl, rfl, rfl, by simp, fun k hk _ => heap_alloc_old w.drew _ hk⟩⟩
    · simp only [Array.size_append, List.size_toArray, size_zeroCells, hzs, hlen, ← Nat.add_mul]
      congr 1
      omega
    · simp only [Array.toList_append]
      rw [← hlen]
      exact List.take_left
  rcases hown.2 with ⟨rfl, rfl⟩ | ⟨g, cap, cur, rfl, hbg, hg, hnc, hcm, hcs, htake⟩
  · have hx : xs = [] := List.eq_nil_of_length_eq_zero (by simpa using hown.1)
    subst hx
    by_cases hm : m = 0
    · subst hm
      have hn : news = [] := List.eq_nil_of_length_eq_zero (by simpa using hl)
      subst hn
      refine ⟨.slice none 0 0, w, ?_, World.ownsRow_nil w base e i.size, ⟨rfl, rfl, rfl, Nat.le_refl _, fun _ _ _ => rfl⟩, by simp, .inl rfl⟩
      have h1 := hs.len
      have h2 := hs.cells
      rcases hs.kind with ⟨e', hk⟩ | hk <;> simp [Builtin.append_, run_underlying ht, run_underlying hk, sizeOf, typeInfo, hi, h1, h2]
    · have hr := run_append_grow_src (P := P) w t tx ty e i z ht hi hz none 0 0 [] (by simp [Builtin.firstCells]) x m news hs (by omega) (by omega) (growslice_fits (by omega) hbytes)
      have hgr := grown 0 (by omega) (Value.ownBlock (.slice none 0 0))
      exact ⟨_, _, hr, hgr.1, hgr.2, by simp [hm], .inr rfl⟩
  · by_cases hroom : n + m ≤ cap
    · have hfit : n * i.size + news.length ≤ cur.size := by rw [hl, hcs, ← Nat.add_mul]; exact Nat.mul_le_mul_right _ hroom
      have hr : (Builtin.append_ #[t, tx] ty #[.slice (some ⟨g, 0, none⟩) n cap, x]).run P w =
          .ok (.slice (some ⟨g, 0, none⟩) (n + m) cap) (w.setRow g (cur.toList.take (n * i.size) ++ news ++ cur.toList.drop (n * i.size + news.length)).toArray) := by
        have hst := run_storeCells_at P g (n * i.size) e news 0 cur w hg (by simpa using hfit) hs.one
        simp only [Nat.add_zero] at hst
        have h1 := hs.len
        have h2 := hs.cells
        rcases hs.kind with ⟨e', hk⟩ | hk <;> simp [Builtin.append_, run_underlying ht, run_underlying hk, sizeOf, typeInfo, hi, h1, hroom, h2, Addr.add_lit, hst]
      refine ⟨_, _, hr, ⟨hlen, .inr ⟨g, cap, _, rfl, hbg, setRow_heap w g cur _ e _ hg, hroom, hcm, ?_, ?_⟩⟩, ⟨rfl, rfl, rfl, by simp, fun k _ hk => setRow_other w g k _ (fun e => hk (by simp [Value.ownBlock, e]))⟩, by simp, .inl rfl⟩
      · simp only [List.size_toArray, List.length_append, List.length_take, List.length_drop, Array.length_toList]
        omega
      · rw [htake, ← hlen]
        exact List.take_left
    · have holds : ∀ j u, xs[j]? = some u → w.drew.cell? ((⟨g, 0, none⟩ : Addr).add j) = some u := fun j u hj => by simpa using hown.cells (g := g) rfl j u hj
      have hr := run_append_grow_src (P := P) w t tx ty e i z ht hi hz (some ⟨g, 0, none⟩) n cap xs (run_firstCells_some w.drew i.size n ⟨g, 0, none⟩ n cap xs hown.1 holds) x m news hs (by omega) (by omega) (growslice_fits (by omega) hbytes)
      have hgr := grown cap (by omega) (Value.ownBlock (.slice (some ⟨g, 0, none⟩) n cap))
      exact ⟨_, _, hr, hgr.1, hgr.2, by simp, .inr rfl⟩

theorem wpList_append_src {ops : Array Oper} {rest : List Oper} {o : Oper} {a : Act} {Q : Exit → Act → World → Prop} (hgd : o.guard = none) (s x : Operand) (t tx : TypeId)
    (ho : o.op = .call { callee := .builtin .append, args := #[s, x], argTypes := #[t, tx] })
    (base : Nat) (e : TypeId) (i : TypeInfo) (z : Value) (size bytes : Nat) (ht : P.underlying t = some (.slice e)) (hi : P.info? e = some i) (hz : i.zero = some z)
    (hsize : i.size = size) (hby : i.bytes = bytes) (hzs : z.cells.size = size) (hsz : 0 < size)
    (v : Value) (n : Nat) (xs : List Value) (hv : a.eval s = v) (hown : w.ownsRow base e size v n xs)
    (xv : Value) (m : Nat) (news : List Value) (hx : a.eval x = xv) (hs : Src P size tx xv m news w)
    (h63 : n + m ≤ maxLen) (hbytes : (n + m) * bytes ≤ 140737488355328) (hbase : base ≤ w.heap.size)
    (h : ∀ v' w', w'.ownsRow base e size v' (n + m) (xs ++ news) → w.grownBy w' v.ownBlock → (v' = .slice none 0 0 ↔ v = .slice none 0 0 ∧ m = 0) → (v'.ownBlock = v.ownBlock ∨ v'.ownBlock = some w.heap.size) → wpList P ops Q rest (a.put o.dst v') w') : wpList P ops Q (o :: rest) a w :=
  wpList_plain hgd fun K hK => by
    obtain ⟨v', w', hr, h2, h3, h4, h5⟩ := run_append_own_src (P := P) w base t tx o.type e i z size bytes ht hi hz hsize hby hzs hsz v n xs hown xv m news hs h63 hbytes hbase
    unfold Oper.wp execOp
    simp only [ho, resolve, invoke, builtin, Sem.run_bind, Sem.run_pure, Result.andThen_ok, List.map_toArray, List.map_cons, List.map_nil, hv, hx, hr]
    exact hK _ _ (h v' w' h2 h3 h4 h5)
end
end Go.Proofs.YthinpbdbhijbgaaGreatDoor
namespace Go.Proofs.YthinpbdbhijbgaaGreatDoor
open Go.RowKit
set_option maxHeartbeats 400000
set_option maxRecDepth 100000

/-- The kind of a character, as runes.Kind has it. -/
def kindN (r : Int) : Int :=
  if r < 0 ∨ 1114111 < r then 0 else if r = 0 then 2 else if r ≤ 31 ∨ (127 ≤ r ∧ r ≤ 159) then 3 else if 55296 ≤ r ∧ r ≤ 57343 then 4
  else if 57344 ≤ r ∧ r ≤ 63743 then 5 else if 65520 ≤ r ∧ r ≤ 65535 then 6 else if 65536 ≤ r then 7 else 1

theorem kindN_pl (r : Nat) : kindN r = 1 ↔ pl r = true := by
  simp only [kindN, pl, Bool.or_eq_true, Bool.and_eq_true, decide_eq_true_eq]
  repeat' split
  all_goals omega

theorem ret_int {k : IntKind} {a b : Int} (h : a = b) : Ending.returned (.int k a) = .returned (.int k b) := by rw [h]

theorem kind_any (r : Int) (w : World) : Calls Tryz.prog 275 #[.int .i32 r] w fun e w' => e = .returned (.int .i64 (kindN r)) ∧ w = w' := by
  go_enter Tryz.func275, Tryz.ntmps275
  go_wp2
  all_goals (try go_ret)
  all_goals (refine ⟨ret_int ?_, rfl⟩; go_light; (try simp only [beq_iff_eq, beq_eq_false_iff_ne, ne_eq] at *); unfold kindN; repeat' split)
  all_goals (first | rfl | (exfalso; omega))

theorem of_any (s : ByteArray) (at' r : Nat) (w : World) (h : at' ≤ s.size) : Calls Tryz.prog 255 #[.string s, .int .i64 at', .int .i32 r] w fun e w' => ∃ k : Int, e = .returned (.int .i64 k) ∧ (k = 1 ↔ pl r = true) ∧ w = w' := by
  by_cases h1 : r = 65533
  · subst h1
    go_enter Tryz.func255, Tryz.ntmps255
    go_wp2_with (first | (go_at_call 132; refine (Tryz.strings_HasPrefix _ _ _).mono ?_; rintro e w' ⟨rfl, rfl⟩) | (go_at_call 275; refine (kind_any _ _).mono ?_; rintro e w' ⟨rfl, rfl⟩))
    · go_ret
      exact ⟨_, rfl, by decide, rfl⟩
    · go_ret
      exact ⟨_, rfl, kindN_pl 65533, rfl⟩
  · have h2 : ((r : Int) == 65533) = false := by simp; omega
    go_enter Tryz.func255, Tryz.ntmps255
    go_wp2_with (go_at_call 275; refine (kind_any _ _).mono ?_; rintro e w' ⟨rfl, rfl⟩)
    go_ret
    exact ⟨_, rfl, kindN_pl r, rfl⟩
theorem first_any (s : ByteArray) (w : World) : Calls Tryz.prog 221 #[.string s] w fun e w' => ∃ (k : Int) (pos : Nat), e = .returned (.tuple #[.int .i64 (fbAt s 0), .int .i64 k]) ∧ w' = w.iter s pos := by
  go_enter Tryz.func221, Tryz.ntmps221
  go_wp2
  go_loopw [4] (fun _ wr => ∃ pos : Nat, wr = w.iter s pos ∧ pos ≤ s.size ∧ Hid (fbAt s pos = fbAt s 0)) (fun _ wr => s.size - wr.iterPos w.heap.size)
  case atStart => exact ⟨0, rfl, Nat.zero_le _, rfl⟩
  case round =>
    obtain ⟨pos, rfl, hpos, H⟩ := hrel
    by_cases hlt : pos < s.size
    · have hs := fbAt_step s pos hlt
      have d := dec s pos hlt
      have hd1 := d.pos
      have hd2 := d.fits
      clear d
      have hn := run_next_any (P := Tryz.prog) w s pos
      by_cases hpl : pl (Utf8.decode s pos).1 = true
      · rw [if_pos hpl] at hs
        have H2 : Hid (fbAt s (pos + (Utf8.decode s pos).2) = fbAt s 0) := hs.symm.trans H
        clear hs H
        go_wp2_with fail
        refine (of_any s pos (Utf8.decode s pos).1 _ hpos).mono ?_
        rintro e w' ⟨k, rfl, hk, rfl⟩
        obtain rfl : k = 1 := hk.2 hpl
        clear hk
        go_wp2
        go_roundw
        case rel => exact ⟨_, rfl, hd2, H2⟩
        case measure => simp; omega
      · rw [if_neg hpl] at hs
        have H2 : Hid (fbAt s 0 = (pos : Int)) := (H.symm.trans hs)
        clear hs H
        go_wp2_with fail
        refine (of_any s pos (Utf8.decode s pos).1 _ hpos).mono ?_
        rintro e w' ⟨k, rfl, hk, rfl⟩
        have hk1 : (k != 1) = true := by simp; intro h; exact hpl (hk.1 h)
        clear hk
        go_wp2
        go_ret2
        exact ⟨k, pos + (Utf8.decode s pos).2, by rw [H2.out]; rfl, rfl⟩
    · have H2 : Hid (fbAt s 0 = -1) := H.symm.trans (fbAt_end s pos (by omega))
      have hn := run_next_end (P := Tryz.prog) w s pos
      go_wp2
      go_ret2
      exact ⟨1, pos, by rw [H2.out]; rfl, rfl⟩
end Go.Proofs.YthinpbdbhijbgaaGreatDoor
namespace Go.Proofs.YthinpbdbhijbgaaGreatDoor
open Go.RowKit
set_option maxHeartbeats 400000
set_option maxRecDepth 100000

theorem infoU8 : (Tryz.prog.info? 5).map (fun i => (i.zero, i.size, i.bytes)) = some (some (.int .u8 0), 1, 1) := by kernel_rfl

theorem ownsRow_keep {w w' : World} {base e size n : Nat} {v : Value} {xs : List Value} (h : w.ownsRow base e size v n xs) (hk : ∀ g, v.ownBlock = some g → w'.heap[g]? = w.heap[g]?) : w'.ownsRow base e size v n xs := by
  refine ⟨h.1, ?_⟩
  rcases h.2 with h | ⟨g, cap, cur, rfl, h1, h2, h3⟩
  · exact .inl h
  · exact .inr ⟨g, cap, cur, rfl, h1, (hk g rfl).trans h2, h3⟩

/-- A writer: a block of one cell, which holds a row of the call's own. -/
def Wr (B : Nat) (w : World) (bb : Nat) (l : List UInt8) : Prop :=
  B ≤ bb ∧ ∃ v, w.heap[bb]? = some (.cells #[v] 272 (0, 0)) ∧ w.ownsRow B 5 1 v l.length (l.map u8v)

theorem one_u8 (xs : List UInt8) : ∀ u ∈ xs.map u8v, u.oneCell' = true := fun u hu => by
  obtain ⟨_, _, rfl⟩ := List.mem_map.1 hu; rfl

/-- A block that is neither the writer's own nor its row's. -/
def Apart (w : World) (bb g : Nat) : Prop := g ≠ bb ∧ ∀ v, w.heap[bb]? = some (.cells #[v] 272 (0, 0)) → v.ownBlock ≠ some g
/-- What the writer leaves as it is. -/
def Keeps (bb : Nat) (w w' : World) : Prop := w.heap.size ≤ w'.heap.size ∧ ∀ g, g < w.heap.size → Apart w bb g → w'.heap[g]? = w.heap[g]? ∧ Apart w' bb g
theorem Keeps.refl (bb : Nat) (w : World) : Keeps bb w w := ⟨Nat.le_refl _, fun _ _ h => ⟨rfl, h⟩⟩
theorem Keeps.trans {bb : Nat} {a b c : World} (h : Keeps bb a b) (k : Keeps bb b c) : Keeps bb a c :=
  ⟨Nat.le_trans h.1 k.1, fun g hg ha => let x := h.2 g hg ha; let y := k.2 g (Nat.lt_of_lt_of_le hg h.1) x.2; ⟨y.1.trans x.1, y.2⟩⟩
theorem Keeps.alloc {bb : Nat} (w : World) (hb : bb < w.heap.size) (o : Obj) : Keeps bb w (w.alloc o) :=
  ⟨by simp, fun g hg ha => ⟨Below.heap_alloc _ _ _ hg, ha.1, fun v hv => ha.2 v (by rw [← Below.heap_alloc w o bb hb]; exact hv)⟩⟩

theorem Wr.size {B bb : Nat} {w : World} {l : List UInt8} (h : Wr B w bb l) : bb < w.heap.size := by
  obtain ⟨_, v, hb, _⟩ := h; exact (Array.getElem?_eq_some_iff.1 hb).1

theorem Wr.below {B bb : Nat} {w w' : World} {l : List UInt8} (h : Wr B w bb l) (hb : ∀ g, B ≤ g → g < w.heap.size → w'.heap[g]? = w.heap[g]?) : Wr B w' bb l := by
  have hsz := h.size
  obtain ⟨hB, v, h1, h2⟩ := h
  refine ⟨hB, v, (hb bb hB hsz).trans h1, ownsRow_keep h2 (fun g hg => ?_)⟩
  rcases h2.2 with ⟨rfl, _⟩ | ⟨g', cap, cur, rfl, k1, k2, k3⟩
  · cases hg
  · simp only [Value.ownBlock, Option.some.injEq] at hg
    subst hg
    exact hb g' k1 (Array.getElem?_eq_some_iff.1 k2).1
theorem Wr.alloc {B bb : Nat} {w : World} {l : List UInt8} (h : Wr B w bb l) (o : Obj) : Wr B (w.alloc o) bb l :=
  h.below (fun g _ hg => Below.heap_alloc _ _ _ hg)

end Go.Proofs.YthinpbdbhijbgaaGreatDoor
namespace Go.Proofs.YthinpbdbhijbgaaGreatDoor
open Go.RowKit
set_option maxHeartbeats 400000
set_option maxRecDepth 100000

/-- A slice's cells, in blocks that the writer leaves alone. -/
def Away (bb : Nat) (w : World) (a : Option Addr) (xs : List Value) : Prop :=
  ∀ j u, xs[j]? = some u → ∃ b off, a = some ⟨b, off, none⟩ ∧ b < w.heap.size ∧ Apart w bb b ∧ w.cell? ⟨b, off + j, none⟩ = some u
theorem Away.cells {bb : Nat} {w : World} {a : Option Addr} {xs : List Value} (h : Away bb w a xs) : Cells w.heap.size w a xs := fun j u hj =>
  let ⟨b, off, h1, h2, _, h4⟩ := h j u hj; ⟨b, off, h1, h2, h4⟩
end Go.Proofs.YthinpbdbhijbgaaGreatDoor
namespace Go.Proofs.YthinpbdbhijbgaaGreatDoor
open Go.RowKit
set_option maxHeartbeats 400000
set_option maxRecDepth 100000

/-- A copy in new memory. -/
def CloneOut (ty size : Nat) (a : Option Addr) (n : Nat) (xs : List Value) (w : World) (e : Ending) (w' : World) : Prop :=
  ∃ v', e = .returned v' ∧ w'.ownsRow w.heap.size ty size v' n xs ∧ Below w.heap.size w w' ∧ (v' = .slice none 0 0 ↔ a = none)

theorem ownsRow_empty (w : World) (e : TypeId) (size : Nat) : (w.alloc (.cells #[] e)).ownsRow w.heap.size e size (.slice (some ⟨w.heap.size, 0, none⟩) 0 0) 0 [] :=
  ⟨by simp, .inr ⟨w.heap.size, 0, #[], rfl, Nat.le_refl _, heap_alloc_new w _, Nat.le_refl _, Nat.zero_le _, by simp, by simp⟩⟩

theorem Cells.none {B : Nat} {w : World} {xs : List Value} (h : Cells B w none xs) : xs = [] := by
  cases xs with
  | nil => rfl
  | cons u l => obtain ⟨_, _, ha, _⟩ := h 0 u rfl; cases ha

/-- An entry of a list of permissions. -/
structure Ac where
  perms : Int
  scheme : ByteArray
  id : ByteArray
def acC (x : Ac) : List Value := [.int .i32 x.perms, .string x.scheme, .string x.id]
def acCs (l : List Ac) : List Value := l.flatMap acC
theorem acCs_length (l : List Ac) : (acCs l).length = l.length * 3 := by
  induction l with
  | nil => rfl
  | cons a l ih => simp only [acCs, List.flatMap_cons, List.length_append, List.length_cons] at *; rw [ih]; simp [acC]; omega
theorem one_ac (xs : List Ac) : ∀ u ∈ acCs xs, u.oneCell' = true := fun u hu => by
  obtain ⟨x, _, h⟩ := List.mem_flatMap.1 hu
  simp only [acC, List.mem_cons, List.mem_nil_iff, or_false] at h
  rcases h with rfl | rfl | rfl <;> rfl
theorem infoAc : (Tryz.prog.info? 129).map (fun i => (i.zero, i.size, i.bytes)) = some (some (.agg #[.int .i32 0, .string ⟨#[]⟩, .string ⟨#[]⟩]), 3, 40) := by kernel_rfl

/-- A row of the call's own, as a slice's cells. -/
theorem ownsRow_cells {w : World} {base e size n : Nat} {v : Value} {xs : List Value} (h : w.ownsRow base e size v n xs) : ∃ a c, v = .slice a n c ∧ Cells w.heap.size w a xs := by
  rcases h.2 with ⟨rfl, rfl⟩ | ⟨g, cap, cur, rfl, h1, h2, h3⟩
  · have hx : xs = [] := List.eq_nil_of_length_eq_zero (by simpa using h.1)
    subst hx
    exact ⟨none, 0, rfl, Cells.nil _ _ _⟩
  · refine ⟨_, cap, rfl, fun j u hj => ⟨g, 0, rfl, (Array.getElem?_eq_some_iff.1 h2).1, ?_⟩⟩
    have := h.cells (g := g) rfl j u hj
    rwa [show ((⟨g, 0, none⟩ : Addr).add j) = ⟨g, 0 + j, none⟩ from by unfold Addr.add; split <;> simp_all] at this

end Go.Proofs.YthinpbdbhijbgaaGreatDoor
namespace Go.Proofs.YthinpbdbhijbgaaGreatDoor
open Go.RowKit
set_option maxHeartbeats 400000
set_option maxRecDepth 100000

/-- What stands ahead of the first slash. -/
def cutB (t : ByteArray) : ByteArray := if 0 ≤ Lib.indexByte t.data.toList 47 then t.extract 0 (Lib.indexByte t.data.toList 47).toNat else t

theorem indexByte_lt (t : ByteArray) (h : 0 ≤ Lib.indexByte t.data.toList 47) : (Lib.indexByte t.data.toList 47).toNat < t.size := by
  obtain ⟨o, ho⟩ := Int.eq_ofNat_of_zero_le h
  obtain ⟨h1, _⟩ := Lib.indexByte_some ho
  have := (List.getElem?_eq_some_iff.1 h1).1
  rw [ho]; simpa using this

theorem cut_any (t : ByteArray) (w : World) (ht : t.size ≤ 9223372036854775806) : Calls Tryz.prog 136 #[.string t, .string ⟨#[47]⟩] w fun e w' =>
    ∃ (b : ByteArray) (f : Bool) (n : Nat), e = .returned (.tuple #[.string (cutB t), .string b, .bool f]) ∧ w' = w.drewN n := by
  have hge := Lib.indexByte_ge t.data.toList 47
  have HC := Tryz.stringslite_Index_one t 47 w
  by_cases h : 0 ≤ Lib.indexByte t.data.toList 47
  · have hl := indexByte_lt t h
    have e1 : cutB t = t.extract 0 (Lib.indexByte t.data.toList 47).toNat := by unfold cutB; rw [if_pos h]
    have E1 := Lib.hid e1
    clear e1
    generalize Lib.indexByte t.data.toList 47 = i at *
    obtain ⟨i, rfl⟩ := Int.eq_ofNat_of_zero_le h
    simp only [Int.toNat_natCast] at *
    have hl2 : (i : Int) + 1 ≤ t.size := by omega
    go_enter Tryz.func136, Tryz.ntmps136
    go_wp2_with fail
    refine HC.mono ?_
    rintro e w' ⟨rfl, rfl⟩
    clear HC
    go_wp2
    go_quiet (fail)
    go_wp2
    go_ret3
    exact ⟨_, _, _, by rw [E1.out]; rfl, rfl⟩
  · have e1 : cutB t = t := by unfold cutB; rw [if_neg h]
    have E1 := Lib.hid e1
    clear e1
    generalize Lib.indexByte t.data.toList 47 = i at *
    obtain rfl : i = -1 := by omega
    go_enter Tryz.func136, Tryz.ntmps136
    go_wp2_with fail
    refine HC.mono ?_
    rintro e w' ⟨rfl, rfl⟩
    clear HC
    go_wp2
    go_ret3
    exact ⟨_, _, 0, by rw [E1.out]; rfl, rfl⟩
theorem Cut_any (t : ByteArray) (w : World) (ht : t.size ≤ 9223372036854775806) : Calls Tryz.prog 64 #[.string t, .string ⟨#[47]⟩] w fun e w' =>
    ∃ (b : ByteArray) (f : Bool) (n : Nat), e = .returned (.tuple #[.string (cutB t), .string b, .bool f]) ∧ w' = w.drewN n := by
  go_enter Tryz.func64, Tryz.ntmps64
  go_wp2_with fail
  refine (cut_any t w ht).mono ?_
  rintro e w' ⟨b, f, n, rfl, rfl⟩
  go_wp2
  go_ret3
  exact ⟨b, f, n, rfl, rfl⟩

theorem takeWhile_index : ∀ (l : List UInt8), l.takeWhile (· != 47) = if 0 ≤ Lib.indexByte l 47 then l.take (Lib.indexByte l 47).toNat else l
  | [] => by simp [Lib.indexByte]
  | b :: l => by
    have hge := Lib.indexByte_ge l 47
    have ih := takeWhile_index l
    simp only [Lib.indexByte]
    by_cases hb : b = 47
    · subst hb; simp
    · have h1 : (b == 47) = false := by simp [hb]
      have h2 : (b != 47) = true := by simp [hb]
      rw [List.takeWhile_cons_of_pos (by simpa using hb), ih]
      simp only [h1]
      by_cases hi : Lib.indexByte l 47 = -1
      · simp [hi]
      · have h3 : (Lib.indexByte l 47 == -1) = false := by simp [hi]
        simp only [h3]
        rw [if_pos (by omega)]
        have : (Lib.indexByte l 47 + 1).toNat = (Lib.indexByte l 47).toNat + 1 := by omega
        simp [this]
        omega

theorem cutB_list (s : ByteArray) (p : Nat) (hp : p ≤ s.size) : (cutB (s.extract p s.size)).toList = partL s p := by
  have e : (s.extract p s.size).data.toList = s.data.toList.drop p := by
    rw [Lib.extract_to_end]
  unfold partL cutB
  rw [takeWhile_index, ← e]
  split
  · rw [ByteArray.toList_eq, Lib.extract_data]; simp
  · rw [ByteArray.toList_eq]

theorem below_iter {B : Nat} {a w : World} (h : Below B a w) (hB : B ≤ w.heap.size) (s : ByteArray) (p : Nat) : Below B a (w.iter s p) := h.alloc hB _
theorem below_drewN {B : Nat} {a w : World} (h : Below B a w) (n : Nat) : Below B a (w.drewN n) := ⟨h.os, h.tape, h.output, h.size, h.block⟩

theorem iter_drewN (w : World) (s : ByteArray) (p n m : Nat) : (((w.drewN n).iter s p).drewN m) = (w.drewN (n + m)).iter s p := by
  simp [World.drewN, World.iter, World.alloc, Nat.add_assoc]

theorem iterPos_d (w : World) (s : ByteArray) (p n : Nat) : ((w.drewN n).iter s p).iterPos w.heap.size = p := World.iterPos_iter (w.drewN n) s p

theorem sep_ok (s : ByteArray) (p : Nat) (h : bat s p ≠ 47) : sep s p = true := by simp [sep, h]
theorem sep_slash (s : ByteArray) (p : Nat) (h : bat s p = 47) : sep s p = (!(0 < p && bat s (p - 1) == 47) && !dots s (p + 1)) := by simp [sep, h]

theorem dec_one (s : ByteArray) (p : Nat) (h : bat s p = 47) (d : bat s p < 128 → Utf8.decode s p = (bat s p, 1)) : Utf8.decode s p = (47, 1) := by
  rw [d (by omega), h]

/-- What is so behind a character that is no slash, or one. -/
theorem next_last (s : ByteArray) (p : Nat) (d : Dec s p) (hpl : pl (Utf8.decode s p).1 = true) : (bat s (p + (Utf8.decode s p).2 - 1) = 47 ↔ bat s p = 47) ∧ ((Utf8.decode s p).1 = 47 ↔ bat s p = 47) := by
  have h1 := d.pos
  by_cases h : (Utf8.decode s p).2 = 1
  · have h3 : (Utf8.decode s p).1 ≠ 65533 := by intro e; rw [e] at hpl; revert hpl; decide
    have := d.one h h3
    rw [h, Nat.add_sub_cancel]
    exact ⟨Iff.rfl, by rw [this.1]⟩
  · have h3 := d.more h
    have h4 := d.tail ((Utf8.decode s p).2 - 1) (by omega) (by omega)
    rw [show p + (Utf8.decode s p).2 - 1 = p + ((Utf8.decode s p).2 - 1) from by omega]
    exact ⟨⟨by omega, by omega⟩, ⟨by omega, by omega⟩⟩

theorem vpath_big (s : ByteArray) (h : 4096 < s.size) : vpath s = false := by simp [vpath]; omega
theorem vpath_start (s : ByteArray) (h : bat s 0 ≠ 47) : vpath s = false := by simp [vpath, h]
theorem vpath_empty (s : ByteArray) (h : s.size = 0) : vpath s = false := by simp [vpath, h]
theorem vpath_root (s : ByteArray) (h : s.size = 1) (h0 : bat s 0 = 47) : vpath s = true := by simp [vpath, h, h0]
theorem vpath_end (s : ByteArray) (h : s.size ≠ 1) (h0 : bat s (s.size - 1) = 47) : vpath s = false := by simp [vpath, h, h0]
theorem vpath_scan (s : ByteArray) (h : s.size ≠ 1) (h0 : s.size ≠ 0) (h1 : s.size ≤ 4096) (h2 : bat s 0 = 47) (h3 : bat s (s.size - 1) ≠ 47) : vpath s = scanAt s 0 := by
  have a1 : (s.size != 0) = true := bne_iff_ne.2 h0
  have a2 : (bat s (s.size - 1) != 47) = true := bne_iff_ne.2 h3
  have a3 : (s.size == 1) = false := beq_eq_false_iff_ne.2 h
  have a4 : decide (s.size ≤ 4096) = true := by simpa using h1
  have a5 : (bat s 0 == 47) = true := beq_iff_eq.2 h2
  simp only [vpath, a1, a2, a3, a4, a5, scanAt, Bool.true_and, Bool.false_or]

theorem size_toList (s : ByteArray) : s.toList.length = s.size := by rw [ByteArray.toList_eq]; simp
theorem isEmpty_size (s : ByteArray) : s.toList.isEmpty = (s.size == 0) := by
  rw [← size_toList]; cases s.toList <;> simp
theorem root_size (s : ByteArray) (h0 : 0 < s.size) (h : bat s 0 = 47) : (s.toList == [47]) = (s.size == 1) := by
  have e : s.data.toList[0]'(by simpa using h0) = 47 := by
    have := bat_get s 0 h0
    rw [h] at this
    exact UInt8.toNat_inj.1 (this.symm.trans rfl)
  have h0' : 0 < s.data.toList.length := by simpa using h0
  rw [ByteArray.toList_eq, ← size_toList, ByteArray.toList_eq]
  cases hl : s.data.toList with
  | nil => rw [hl] at h0'; simp at h0'
  | cons a l =>
    simp only [hl, List.getElem_cons_zero] at e
    subst e
    cases l <;> simp

set_option maxHeartbeats 1000000 in
theorem check_any (s : ByteArray) (w : World) (hs : s.size ≤ 9223372036854775806) : Calls Tryz.prog 175 #[.string s] w fun e w' =>
    ∃ f a : Int, e = .returned (.tuple #[.int .i64 f, .int .i64 a]) ∧ Hid (f = 0 ↔ vpath s = true) ∧ Below w.heap.size w w' := by
  have he := isEmpty_size s
  by_cases h0 : s.size = 0
  · have hv := Lib.hid (vpath_empty s h0)
    have he' : s.toList.isEmpty = true := by rw [he]; simp [h0]
    clear he h0
    go_enter Tryz.func175, Tryz.ntmps175
    go_wp2; go_step3; go_wp2
    rw [Exit.noGoto_ret]; go_ret2
    exact ⟨1, 0, rfl, by unfold Hid; rw [hv.out]; simp, Below.refl _ _⟩
  have he' : s.toList.isEmpty = false := by rw [he]; simp [h0]
  have hp : 0 < s.size := by omega
  clear he
  by_cases h1 : 4096 < s.size
  · have hv := Lib.hid (vpath_big s h1)
    go_enter Tryz.func175, Tryz.ntmps175
    go_wp2; go_step3; go_wp2
    rw [Exit.noGoto_ret]; go_ret2
    exact ⟨2, 4096, rfl, by unfold Hid; rw [hv.out]; simp, Below.refl _ _⟩
  by_cases h2 : bat s 0 ≠ 47
  · have hv := Lib.hid (vpath_start s h2)
    have h2' : ((s[0].toNat : Int) != 47) = true := by rw [← bat_get s 0 hp]; simp; omega
    go_enter Tryz.func175, Tryz.ntmps175
    go_wp2; go_step3; go_wp2
    rw [Exit.noGoto_ret]; go_ret2
    exact ⟨3, 0, rfl, by unfold Hid; rw [hv.out]; simp, Below.refl _ _⟩
  have h2 : bat s 0 = 47 := by omega
  have h2' : ((s[0].toNat : Int) != 47) = false := by rw [← bat_get s 0 hp]; simp; omega
  have hr := root_size s hp h2
  by_cases h3 : s.size = 1
  · have hv := Lib.hid (vpath_root s h3 h2)
    have hr' : (s.toList == [47]) = true := by rw [hr]; simp [h3]
    clear hr h3 h2
    go_enter Tryz.func175, Tryz.ntmps175
    go_wp2; go_step3; go_wp2
    rw [Exit.noGoto_ret]; go_ret2
    exact ⟨0, -1, rfl, by unfold Hid; rw [hv.out]; simp, Below.refl _ _⟩
  have hr' : (s.toList == [47]) = false := by rw [hr]; simp [h3]
  clear hr
  have hb1 : 1 ≤ (s.size : Int) ∧ (s.size : Int) - 1 < s.size := by omega
  by_cases h4 : bat s (s.size - 1) = 47
  · have hv := Lib.hid (vpath_end s h3 h4)
    have h4' : ((s[s.size - 1].toNat : Int) == 47) = true := by rw [← bat_get s (s.size - 1) (by omega)]; simp; omega
    clear h4 h2
    go_enter Tryz.func175, Tryz.ntmps175
    go_wp2; go_step3; go_wp2
    rw [Exit.noGoto_ret]; go_ret2
    exact ⟨4, _, rfl, by unfold Hid; rw [hv.out]; simp, Below.refl _ _⟩
  have h4' : ((s[s.size - 1].toNat : Int) == 47) = false := by rw [← bat_get s (s.size - 1) (by omega)]; simp; omega
  have hv := Lib.hid (vpath_scan s h3 h0 (by omega) h2 h4)
  clear h4 h2
  go_enter Tryz.func175, Tryz.ntmps175
  go_wp2; go_step3
  go_wp2_with (go_at_call 221; refine (first_any _ _).mono ?_; rintro e w' ⟨k, pos, rfl, rfl⟩)
  have hB : Below w.heap.size w (w.iter s pos) := below_iter (Below.refl _ _) (Nat.le_refl _) s pos
  have hfb := fbAt_ge s 0
  generalize w.iter s pos = w1 at hB ⊢
  clear hr' he'
  go_step3
  go_wp2
  go_loopw [6] (fun b wr => ∃ pos b' n : Nat, wr = (w1.drewN n).iter s pos ∧ b = .int .i64 b' ∧ pos ≤ s.size ∧ b' ≤ pos ∧ Hid (0 < pos → (b' = pos ↔ bat s (pos - 1) = 47)) ∧ Hid (scanAt s 0 = scanAt s pos) ∧ Hid (fbAt s 0 = fbAt s pos)) (fun _ wr => s.size - wr.iterPos w1.heap.size)
  case atStart => exact ⟨0, 0, 0, rfl, rfl, Nat.zero_le _, Nat.zero_le _, by unfold Hid; omega, rfl, rfl⟩
  case round =>
    obtain ⟨pos, b, n, rfl, rfl, hpos, hb, Hb, Hs, Hf⟩ := hrel
    by_cases hlt : pos < s.size
    · have hfs := fbAt_step s pos hlt
      have hss := scanAt_step s pos hlt
      have d := dec s pos hlt
      have hd1 := d.pos
      have hd2 := d.fits
      have d0 := d.ascii
      have hn := run_next_any (P := Tryz.prog) (w1.drewN n) s pos
      rw [show (w1.drewN n).heap.size = w1.heap.size from rfl] at hn
      by_cases hpl : pl (Utf8.decode s pos).1 = true
      · rw [if_pos hpl] at hfs
        have hnl := next_last s pos d hpl
        have hge := fbAt_ge s (pos + (Utf8.decode s pos).2)
        have hne : ((pos : Int) == fbAt s 0) = false := by rw [Hf.out, hfs]; simp; omega
        clear d
        by_cases h47 : bat s pos = 47
        · have hda := dec_one s pos h47 d0
          have hr : (((Utf8.decode s pos).1 : Int) != 47) = false := by rw [hda]; rfl
          have ht : (s.extract (pos + 1) s.size).size ≤ 9223372036854775806 := by rw [ByteArray.size_extract]; omega
          have hcl := cutB_list s (pos + 1) (by omega)
          rw [sep_slash s pos h47] at hss
          rw [hda] at hd2
          simp only [] at hd2
          by_cases hv2 : 0 < pos ∧ bat s (pos - 1) = 47
          · have hbp : b = pos := (Hb.out hv2.1).2 hv2.2
            subst hbp
            have hg0 : decide ((0 : Int) < (b : Int)) = true := by simp; omega
            have H1 : Hid (scanAt s 0 = false) := by
              unfold Hid; rw [Hs.out, hss]; simp [hv2]
            clear hss hfs Hs Hf hpl hcl hnl hda
            go_wp2
            (try rw [Exit.noGoto_ret]); go_ret2
            exact ⟨5, _, rfl, by unfold Hid; rw [hv.out, H1.out]; simp, below_iter (below_drewN hB n) (by exact hB.size) s _⟩
          · have hbz : ¬ (0 < pos) ∨ (0 < pos ∧ ((b : Int) == (pos : Int)) = false) := by
              by_cases hz : 0 < pos
              · have : b ≠ pos := fun e => hv2 ⟨hz, (Hb.out hz).1 e⟩
                right; refine ⟨hz, ?_⟩; simp; omega
              · exact .inl hz
            have hex : Exists fun b : Bool => dots s (pos + 1) = b := ⟨_, rfl⟩
            obtain ⟨dt, hdt⟩ := hex
            have hss2 : scanAt s pos = (!dt && scanAt s (pos + 1)) := by
              rw [hss, hdt, hda]
              have : (decide (0 < pos) && bat s (pos - 1) == 47) = false := by
                rw [Bool.and_eq_false_iff]
                by_cases hz : 0 < pos
                · right; simp; exact fun e => hv2 ⟨hz, e⟩
                · left; simpa using hz
              rw [this, show pl (47, 1).1 = true from rfl]; simp
            rw [hda] at hfs
            have H1 := Lib.hid (Hs.out.trans hss2)
            have H2 := Lib.hid (Hf.out.trans hfs)
            unfold dots at hdt
            rw [← hcl] at hdt
            clear hss hss2 hfs Hs Hf hpl hcl hnl hda hge hv2 Hb
            cases dt
            · simp only [Bool.or_eq_false_iff] at hdt
              obtain ⟨e1, e2⟩ := hdt
              have e3 : ¬ (cutB (s.extract (pos + 1) s.size)).toList = [46] := by simpa using e1
              rcases hbz with hbz | ⟨hz, hbz⟩
              all_goals
                go_wp2_with (go_at_call 64; refine (Cut_any _ _ ht).mono ?_; rintro e w' ⟨cb, cf, m, rfl, rfl⟩)
                go_roundw
                case rel => exact ⟨pos + 1, pos + 1, n + m, iter_drewN _ _ _ _ _, by go_num, by omega, by omega, by unfold Hid; simp; omega, by have := H1.out; simpa [Hid] using this, H2⟩
                case measure => rw [iter_drewN, iterPos_d, iterPos_d]; omega
            · have H3 : Hid (scanAt s 0 = false) := by unfold Hid; rw [H1.out]; rfl
              clear H1 H2
              have hd : (cutB (s.extract (pos + 1) s.size)).toList = [46] ∨ (¬ (cutB (s.extract (pos + 1) s.size)).toList = [46] ∧ ((cutB (s.extract (pos + 1) s.size)).toList == [46]) = false ∧ ((cutB (s.extract (pos + 1) s.size)).toList == [46, 46]) = true) := by
                by_cases e : (cutB (s.extract (pos + 1) s.size)).toList = [46]
                · exact .inl e
                · right; simp [e] at hdt; simp [e, hdt]
              clear hdt
              rcases hbz with hbz | ⟨hz, hbz⟩ <;> rcases hd with hd | ⟨hd, hd1, hd2⟩
              all_goals
                go_wp2_with (go_at_call 64; refine (Cut_any _ _ ht).mono ?_; rintro e w' ⟨cb, cf, m, rfl, rfl⟩)
                (try rw [Exit.noGoto_ret]); go_ret2
                exact ⟨6, _, rfl, by unfold Hid; rw [hv.out, H3.out]; simp, below_drewN (below_iter (below_drewN hB n) (by exact hB.size) s _) _⟩
        · have hr : (((Utf8.decode s pos).1 : Int) != 47) = true := by simp; omega
          have H1 := Lib.hid (Hs.out.trans hss)
          have H2 := Lib.hid (Hf.out.trans hfs)
          rw [hpl, sep_ok s pos h47, Bool.true_and, Bool.true_and] at H1
          have H3 := Lib.hid hnl.1
          clear hnl hss hfs Hs Hf hpl
          go_wp2
          go_roundw
          case rel => exact ⟨_, b, n, rfl, rfl, hd2, by omega, by have := H3.out; unfold Hid; omega, H1, H2⟩
          case measure => rw [iterPos_d, iterPos_d]; omega
      · rw [if_neg hpl] at hfs
        have hne : ((pos : Int) == fbAt s 0) = true := by rw [Hf.out, hfs]; simp
        have H1 : Hid (scanAt s 0 = false) := by
          unfold Hid; rw [Hs.out, hss]; simp [hpl]
        clear hss hfs Hs Hf hpl d
        go_wp2
        (try rw [Exit.noGoto_ret]); go_ret2
        exact ⟨7, _, rfl, by unfold Hid; rw [hv.out, H1.out]; simp, below_iter (below_drewN hB n) (by exact hB.size) s _⟩
    · have H1 : Hid (scanAt s 0 = true) := by unfold Hid; rw [Hs.out]; exact scanAt_end s pos (by omega)
      have hn := run_next_end (P := Tryz.prog) (w1.drewN n) s pos
      rw [show (w1.drewN n).heap.size = w1.heap.size from rfl] at hn
      clear Hs Hf
      go_wp2
      (try rw [Exit.noGoto_ret]); go_ret2
      exact ⟨0, -1, rfl, by unfold Hid; rw [hv.out, H1.out]; simp, below_iter (below_drewN hB n) (by exact hB.size) s _⟩

theorem valid_any (s : ByteArray) (w : World) (hs : s.size ≤ 9223372036854775806) : Calls Tryz.prog 131 #[.string s] w fun e w' =>
    e = .returned (.bool (vpath s)) ∧ Below w.heap.size w w' := by
  by_cases hv : vpath s = true
  · go_enter Tryz.func131, Tryz.ntmps131
    go_wp2_with fail
    refine (check_any s w hs).mono ?_
    rintro e w' ⟨f, a, rfl, hf, hB⟩
    obtain rfl : f = 0 := hf.out.2 hv
    go_wp2
    go_ret
    exact ⟨by rw [hv]; rfl, hB⟩
  · go_enter Tryz.func131, Tryz.ntmps131
    go_wp2_with fail
    refine (check_any s w hs).mono ?_
    rintro e w' ⟨f, a, rfl, hf, hB⟩
    have hf0 : (f == 0) = false := by simp; intro h; exact hv (hf.out.1 h)
    have hv' : vpath s = false := by simpa using hv
    clear hf hv
    go_wp2
    go_ret
    exact ⟨by rw [hv']; rfl, hB⟩
end Go.Proofs.YthinpbdbhijbgaaGreatDoor
namespace Go.Proofs.YthinpbdbhijbgaaGreatDoor
open Go.RowKit

/-- The number read of a lead and k bytes behind it. -/
def acc (s : ByteArray) (p : Nat) (r0 : Int) : Nat → Int
  | 0 => r0
  | k + 1 => 64 * acc s p r0 k + bat s (p + (k + 1)) - 128

end Go.Proofs.YthinpbdbhijbgaaGreatDoor
namespace Go.Proofs.YthinpbdbhijbgaaGreatDoor
open Go.RowKit

end Go.Proofs.YthinpbdbhijbgaaGreatDoor
namespace Go.Proofs.YthinpbdbhijbgaaGreatDoor
open Go.RowKit
set_option maxHeartbeats 400000
set_option maxRecDepth 100000

theorem acCs_get (l : List Ac) (k : Nat) (h : k < l.length) : (acCs l)[k * 3]? = some (.int .i32 l[k].perms) ∧ (acCs l)[k * 3 + 1]? = some (.string l[k].scheme) ∧ (acCs l)[k * 3 + 2]? = some (.string l[k].id) := by
  induction l generalizing k with
  | nil => simp at h
  | cons x l ih =>
    cases k with
    | zero => simp [acCs, acC]
    | succ k =>
      have e : ∀ j, (acCs (x :: l))[(k + 1) * 3 + j]? = (acCs l)[k * 3 + j]? := fun j => by
        rw [show (k + 1) * 3 + j = k * 3 + j + 3 from by omega]
        simp only [acCs, List.flatMap_cons]
        rw [List.getElem?_append_right (by simp [acC])]
        simp [acC]
      have i := ih k (by simpa using h)
      exact ⟨by have := e 0; simp only [Nat.add_zero] at this; rw [this]; exact i.1, by rw [e 1]; exact i.2.1, by rw [e 2]; exact i.2.2⟩

/-- The k-th entry's three cells. -/
theorem acCells {B : Nat} {w : World} {a : Option Addr} {l : List Ac} (h : Cells B w a (acCs l)) (k : Nat) (hk : k < l.length) :
    ∃ b off, a = some ⟨b, off, none⟩ ∧ b < B ∧ w.cell? ⟨b, off + k * 3, none⟩ = some (.int .i32 l[k].perms) ∧ w.cell? ⟨b, off + k * 3 + 1, none⟩ = some (.string l[k].scheme) ∧ w.cell? ⟨b, off + k * 3 + 2, none⟩ = some (.string l[k].id) := by
  obtain ⟨g0, g1, g2⟩ := acCs_get l k hk
  obtain ⟨b, off, rfl, hb, c0⟩ := h _ _ g0
  obtain ⟨b1, off1, e1, _, c1⟩ := h _ _ g1
  obtain ⟨b2, off2, e2, _, c2⟩ := h _ _ g2
  simp only [Option.some.injEq, Addr.mk.injEq] at e1 e2
  obtain ⟨rfl, rfl, _⟩ := e1
  obtain ⟨rfl, rfl, _⟩ := e2
  exact ⟨b, off, rfl, hb, c0, by rw [Nat.add_assoc]; exact c1, by rw [Nat.add_assoc]; exact c2⟩

/-- The first of a list that is so; -1: none. -/
def fst (p : Ac → Bool) : List Ac → Int
  | [] => -1
  | x :: l => if p x then 0 else if fst p l < 0 then -1 else fst p l + 1

def IdxOut (p : Ac → Bool) (l : List Ac) (w : World) (e : Ending) (w' : World) : Prop := ∃ i : Int, e = .returned (.int .i64 i) ∧ (decide (0 ≤ i) = l.any p) ∧ Below w.heap.size w w'

theorem index_any (g : FuncId) (p : Ac → Bool) (a : Option Addr) (n c : Nat) (l : List Ac) (w : World) (hc : Cells w.heap.size w a (acCs l)) (hn : n = l.length) (hm : l.length ≤ 9223372036854775807)
    (hen : ∀ args w, (callFunc g args).run Tryz.prog w = .ok (.enter g args) w) (hg : Hid (∀ x ∈ l, ∀ w', Below w.heap.size w w' → Calls Tryz.prog g #[.agg #[.int .i32 x.perms, .string x.scheme, .string x.id]] w' fun e w'' => e = .returned (.bool (p x)) ∧ Below w'.heap.size w' w'')) :
    Calls Tryz.prog 210 #[.slice a n c, .func (.func g) #[] #[]] w (IdxOut p l w) := by
  subst hn
  go_enter Tryz.func210, Tryz.ntmps210
  go_wp2
  go_loopw [8] (fun i wr => ∃ k : Nat, k ≤ l.length ∧ i = .int .i64 k ∧ Hid (∀ j (h : j < l.length), j < k → p l[j] = false) ∧ Below w.heap.size w wr) (fun i _ => l.length - (intOf i).toNat)
  case atStart => exact ⟨0, Nat.zero_le _, rfl, fun j _ h => by omega, Below.refl _ _⟩
  case round =>
    obtain ⟨k, hk, rfl, HP, hB⟩ := hrel
    by_cases hlt : k < l.length
    · obtain ⟨b, off, rfl, hb, c0, c1, c2⟩ := acCells (hc.below hB) k hlt
      have hx : l[k] ∈ l := List.getElem_mem hlt
      have hcall := hg.out l[k] hx wr hB
      by_cases hp : p l[k] = true
      · have H : Hid (decide ((0 : Int) ≤ (k : Int)) = l.any p) := by
          show _ = _
          rw [show decide ((0 : Int) ≤ (k : Int)) = true from by simp]
          exact (List.any_eq_true.2 ⟨l[k], hx, hp⟩).symm
        rw [hp] at hcall
        go_wp2_with fail
        refine hcall.mono ?_
        rintro e w' ⟨rfl, hB'⟩
        have hBw : Below w.heap.size w w' := hB.trans (hB'.mono hB.size)
        clear hcall hB hB' c0 c1 c2 hp
        go_wp2
        go_ret
        exact ⟨k, rfl, H, hBw⟩
      · have hpf : p l[k] = false := by simpa using hp
        have HN : Hid (∀ j (h : j < l.length), j < k + 1 → p l[j] = false) := fun j h hj => by
          by_cases e : j = k
          · subst e; exact hpf
          · exact HP.out j h (by omega)
        rw [hpf] at hcall
        go_wp2_with fail
        refine hcall.mono ?_
        rintro e w' ⟨rfl, hB'⟩
        have hBw : Below w.heap.size w w' := hB.trans (hB'.mono hB.size)
        clear hcall hB hB' c0 c1 c2 hp hpf
        go_wp2
        go_roundw
        case rel => exact ⟨k + 1, by omega, by go_num, HN, hBw⟩
        case measure => simp [intOf]; omega
    · have H : Hid (decide ((0 : Int) ≤ -1) = l.any p) := by
        show _ = _
        rw [show decide ((0 : Int) ≤ -1) = false from by decide]
        refine (List.any_eq_false.2 fun x hx => ?_).symm
        obtain ⟨j, hj, rfl⟩ := List.mem_iff_getElem.1 hx
        rw [HP.out j hj (by omega)]; simp
      go_wp2
      go_ret
      exact ⟨-1, rfl, H, hB⟩

theorem contains_any (g : FuncId) (p : Ac → Bool) (a : Option Addr) (n c : Nat) (l : List Ac) (w : World) (hc : Cells w.heap.size w a (acCs l)) (hn : n = l.length) (hm : l.length ≤ 9223372036854775807)
    (hen : ∀ args w, (callFunc g args).run Tryz.prog w = .ok (.enter g args) w) (hg : Hid (∀ x ∈ l, ∀ w', Below w.heap.size w w' → Calls Tryz.prog g #[.agg #[.int .i32 x.perms, .string x.scheme, .string x.id]] w' fun e w'' => e = .returned (.bool (p x)) ∧ Below w'.heap.size w' w'')) :
    Calls Tryz.prog 166 #[.slice a n c, .func (.func g) #[] #[]] w fun e w' => e = .returned (.bool (l.any p)) ∧ Below w.heap.size w w' := by
  subst hn
  have HI := index_any g p a _ c l w hc rfl hm hen hg
  clear hen hg hc
  go_enter Tryz.func166, Tryz.ntmps166
  go_wp2_with fail
  refine HI.mono ?_
  rintro e w' ⟨i, rfl, hi, hB⟩
  have Hi := Lib.hid hi
  clear HI hi
  go_wp2
  go_ret
  exact ⟨by rw [← Hi.out]; rfl, hB⟩

/-- The two tables of the library's that its own look at texts reads. -/
def Tabs (w : World) : Prop := Lib.Utf8Tabs (Tryz.lays196_ren.g 3) (Tryz.lays196_ren.g 4) w

theorem validS_any (s : ByteArray) (w : World) (hs : s.size ≤ 9223372036854775807) (hT : Tabs w) :
    Calls Tryz.prog 169 #[.string s] w fun e w' => e = .returned (.bool (Lib.validD s.data.toList)) ∧ Below w.heap.size w w' := Any.utf8_ValidString Tryz.lays196 s w hs hT

def bigAc (x : Ac) : Bool := decide (256 < x.scheme.size) || decide (256 < x.id.size)
def badAc (x : Ac) : Bool := !Lib.validD x.scheme.data.toList || !Lib.validD x.id.data.toList

theorem big_any (x : Ac) (w : World) (h1 : x.scheme.size ≤ 9223372036854775807) (h2 : x.id.size ≤ 9223372036854775807) :
    Calls Tryz.prog 167 #[.agg #[.int .i32 x.perms, .string x.scheme, .string x.id]] w fun e w' => e = .returned (.bool (bigAc x)) ∧ Below w.heap.size w w' := by
  go_enter Tryz.func167, Tryz.ntmps167
  by_cases h : 256 < (x.scheme.size : Int)
  · have H : Hid (bigAc x = true) := by unfold Hid bigAc; simp; omega
    go_wp2
    go_ret
    exact ⟨by rw [H.out]; rfl, (Below.refl _ _).alloc (Nat.le_refl _) _⟩
  · have H : Hid (bigAc x = decide (256 < (x.id.size : Int))) := by
      unfold Hid bigAc
      have : ¬ 256 < x.scheme.size := by omega
      simp [this]; omega
    have h' : decide (256 < (x.scheme.size : Int)) = false := by simpa using h
    go_wp2
    go_ret
    exact ⟨by rw [H.out]; rfl, (Below.refl _ _).alloc (Nat.le_refl _) _⟩

theorem Tabs.size {w : World} (h : Tabs w) : 2 ≤ w.heap.size := by
  have := block_lt_of_cell (h.2 0 (by omega)).1
  exact this
theorem Tabs.below {B : Nat} {w w' : World} (h : Tabs w) (hb : Below B w w') (hB : 2 ≤ B) : Tabs w' :=
  ⟨fun c hc => (hb.cell (p := ⟨0, c, none⟩) (by show 0 < B; omega)).trans (h.1 c hc),
   fun i hi => ⟨(hb.cell (p := ⟨1, 2 * i, none⟩) (by show 1 < B; omega)).trans (h.2 i hi).1, (hb.cell (p := ⟨1, 2 * i + 1, none⟩) (by show 1 < B; omega)).trans (h.2 i hi).2⟩⟩

theorem bad_any (x : Ac) (w : World) (h1 : x.scheme.size ≤ 9223372036854775807) (h2 : x.id.size ≤ 9223372036854775807) (hT : Tabs w) :
    Calls Tryz.prog 168 #[.agg #[.int .i32 x.perms, .string x.scheme, .string x.id]] w fun e w' => e = .returned (.bool (badAc x)) ∧ Below w.heap.size w w' := by
  have hsz := hT.size
  have hTb : Hid (∀ w', Below w.heap.size w w' → Tabs w') := fun w' hb => hT.below hb hsz
  have hb0 : Below w.heap.size w (w.alloc (.cells #[.int .i32 x.perms, .string x.scheme, .string x.id] 129)) := (Below.refl _ _).alloc (Nat.le_refl _) _
  have hc2 : (w.alloc (.cells #[.int .i32 x.perms, .string x.scheme, .string x.id] 129)).cell? ⟨w.heap.size, 2, none⟩ = some (.string x.id) := by
    rw [World.cell?_alloc_at _ _ _ _ rfl]; rfl
  by_cases h : Lib.validD x.scheme.data.toList = true
  · have H : Hid (badAc x = !Lib.validD x.id.data.toList) := by unfold Hid badAc; simp [h]
    have C1 := fun w hT => validS_any x.scheme w h1 hT
    simp only [h] at C1
    have C1 := Lib.hid C1
    clear h
    go_enter Tryz.func168, Tryz.ntmps168
    go_wp2_with fail
    refine (C1.out _ (hTb.out _ hb0)).mono ?_
    rintro e w1 ⟨rfl, hb1⟩
    have hb2 : Below w.heap.size w w1 := hb0.trans (hb1.mono (by simp))
    have hcc : w1.cell? ⟨w.heap.size, 2, none⟩ = some (.string x.id) := (hb1.cell (p := ⟨w.heap.size, 2, none⟩) (by simp)).trans hc2
    have hT1 := hTb.out _ hb2
    clear hb0 hb1 hc2 hTb
    go_wp2_with fail
    refine (validS_any x.id _ h2 hT1).mono ?_
    rintro e w2 ⟨rfl, hb3⟩
    have hb4 : Below w.heap.size w w2 := hb2.trans (hb3.mono hb2.size)
    clear hb2 hb3 hcc hT1
    go_wp2
    go_ret
    exact ⟨by rw [H.out]; rfl, hb4⟩
  · have H : Hid (badAc x = true) := by unfold Hid badAc; simp [h]
    have h' : Lib.validD x.scheme.data.toList = false := by simpa using h
    have C1 := fun w hT => validS_any x.scheme w h1 hT
    simp only [h'] at C1
    have C1 := Lib.hid C1
    clear h h'
    go_enter Tryz.func168, Tryz.ntmps168
    go_wp2_with fail
    refine (C1.out _ (hTb.out _ hb0)).mono ?_
    rintro e w1 ⟨rfl, hb1⟩
    have hb2 : Below w.heap.size w w1 := hb0.trans (hb1.mono (by simp))
    clear hb0 hb1 hc2 hTb
    go_wp2
    go_ret
    exact ⟨by rw [H.out]; rfl, hb2⟩

/-- A node. -/
structure Nd where
  path : ByteArray
  data : List UInt8
  acl : List Ac
  owner : Int
  czxid : Int
  mzxid : Int
  pzxid : Int
  azxid : Int
  qzxid : Int
  ctime : Int
  mtime : Int
  version : Int
  creates : Int
  aversion : Int
  has : Bool
  count : Int
  bytes : Int

/-- A node's seventeen cells: the two slices apart. -/
def ndC (n : Nd) (d a : Value) : Array Value :=
  #[.string n.path, d, a, .int .i64 n.owner, .int .i64 n.czxid, .int .i64 n.mzxid, .int .i64 n.pzxid, .int .i64 n.azxid, .int .i64 n.qzxid, .int .i64 n.ctime, .int .i64 n.mtime, .int .i32 n.version, .int .i32 n.creates, .int .i32 n.aversion, .bool n.has, .int .i64 n.count, .int .i64 n.bytes]

def badQ (n : Nd) : Bool := (!n.has && (n.count != 0 || n.bytes != 0)) || (n.has && (decide (n.count < -1) || decide (n.bytes < -1)))

/-- May a node be: 0, or the number of what is wrong. -/
def rightN (n : Nd) : Int :=
  if !vpath n.path then 30 else if 1048575 < n.data.length ∨ 16 < n.acl.length ∨ n.acl.any bigAc = true then 3 else if n.acl.any badAc then 1 else if badQ n then 1 else 0

/-- What is known of any node's sizes. -/
structure Fit (n : Nd) : Prop where
  path : n.path.size ≤ 9223372036854775800
  data : n.data.length ≤ 140737488355328
  acl : n.acl.length * 40 ≤ 140737488355328
  texts : ∀ x ∈ n.acl, x.scheme.size ≤ 9223372036854775800 ∧ x.id.size ≤ 9223372036854775800

end Go.Proofs.YthinpbdbhijbgaaGreatDoor
namespace Go.Proofs.YthinpbdbhijbgaaGreatDoor
open Go.RowKit
set_option maxHeartbeats 1000000
set_option maxRecDepth 100000

/-- A block of a node's cells. -/
def Box (w : World) (b : Nat) (cs : Array Value) : Prop := ∀ j, w.cell? ⟨b, j, none⟩ = cs[j]?
theorem Box.alloc (w : World) (cs : Array Value) (e : TypeId) : Box (w.alloc (.cells cs e)) w.heap.size cs := fun j => by rw [World.cell?_alloc_at _ _ _ _ rfl]
theorem Box.below {B b : Nat} {w w' : World} {cs : Array Value} (h : Box w b cs) (hb : Below B w w') (hB : b < B) : Box w' b cs := fun j => (hb.cell (p := ⟨b, j, none⟩) hB).trans (h j)

theorem enters_f {f : FuncId} {fn : Func} {c : Code} (hf : Tryz.prog.funcs[f]? = some fn) (hname : (fn.name == "runtime.NumGoroutine") = false) (hb : fn.body = some c) : ∀ args w, (callFunc f args).run Tryz.prog w = .ok (.enter f args) w := by
  intro args w
  have h1 : fn.name ≠ "runtime.NumGoroutine" := by simpa using hname
  simp [callFunc, hf, h1, hb, mark]

theorem bigs_any (a : Option Addr) (c : Nat) (l : List Ac) (w : World) (hc : Cells w.heap.size w a (acCs l)) (hm : l.length ≤ 9223372036854775807) (ht : ∀ x ∈ l, x.scheme.size ≤ 9223372036854775800 ∧ x.id.size ≤ 9223372036854775800) :
    Calls Tryz.prog 166 #[.slice a l.length c, .func (.func 167) #[] #[]] w fun e w' => e = .returned (.bool (l.any bigAc)) ∧ Below w.heap.size w w' :=
  contains_any 167 bigAc a _ c l w hc rfl hm (enters_f Tryz.func167 (by kernel_rfl) rfl) (fun x hx w' _ => big_any x w' (by have := ht x hx; omega) (by have := ht x hx; omega))

theorem bads_any (a : Option Addr) (c : Nat) (l : List Ac) (w : World) (hc : Cells w.heap.size w a (acCs l)) (hm : l.length ≤ 9223372036854775807) (ht : ∀ x ∈ l, x.scheme.size ≤ 9223372036854775800 ∧ x.id.size ≤ 9223372036854775800) (hT : Tabs w) :
    Calls Tryz.prog 166 #[.slice a l.length c, .func (.func 168) #[] #[]] w fun e w' => e = .returned (.bool (l.any badAc)) ∧ Below w.heap.size w w' :=
  contains_any 168 badAc a _ c l w hc rfl hm (enters_f Tryz.func168 (by kernel_rfl) rfl) (fun x hx w' hb => bad_any x w' (by have := ht x hx; omega) (by have := ht x hx; omega) (hT.below hb hT.size))

def RightOut (r : Int) (w : World) (e : Ending) (w' : World) : Prop := e = .returned (.int .i64 r) ∧ Below w.heap.size w w'

theorem right_any (n : Nd) (da aa : Option Addr) (dc ac : Nat) (w : World) (hf : Fit n) (hT : Tabs w) (hA : Cells w.heap.size w aa (acCs n.acl)) :
    Calls Tryz.prog 123 #[.agg (ndC n (.slice da n.data.length dc) (.slice aa n.acl.length ac))] w (RightOut (rightN n) w) := by
  have hfp := hf.path
  have hfd := hf.data
  have hfa := hf.acl
  have HT := Lib.hid hf.texts
  have hbox := Box.alloc w (ndC n (.slice da n.data.length dc) (.slice aa n.acl.length ac)) 44
  have hb0 : Below w.heap.size w (w.alloc (.cells (ndC n (.slice da n.data.length dc) (.slice aa n.acl.length ac)) 44)) := (Below.refl _ _).alloc (Nat.le_refl _) _
  unfold ndC at hbox hb0 ⊢
  by_cases h1 : vpath n.path = true
  · have C1 := fun w => valid_any n.path w (by omega)
    simp only [h1] at C1
    have C1 := Lib.hid C1
    go_enter Tryz.func123, Tryz.ntmps123
    go_wp2_with fail
    refine (C1.out _).mono ?_
    rintro e w1 ⟨rfl, hb1⟩
    have hx1 := hbox.below hb1 (by simp)
    have hb : Below w.heap.size w w1 := hb0.trans (hb1.mono (by simp))
    clear hbox hb1 hb0
    unfold Box at hx1
    by_cases h2 : 1048575 < (n.data.length : Int)
    · have R : Hid (rightN n = 3) := by unfold Hid rightN; simp [h1]; omega
      clear h1 C1
      go_wp2
      go_ret
      exact ⟨ret_int R.out.symm, hb⟩
    by_cases h3 : 16 < (n.acl.length : Int)
    · have R : Hid (rightN n = 3) := by unfold Hid rightN; simp [h1]; omega
      have h2' : decide (1048575 < (n.data.length : Int)) = false := by simpa using h2
      clear h1 C1
      go_wp2
      go_ret
      exact ⟨ret_int R.out.symm, hb⟩
    have h2' : decide (1048575 < (n.data.length : Int)) = false := by simpa using h2
    have h3' : decide (16 < (n.acl.length : Int)) = false := by simpa using h3
    have hA1 := hA.below hb
    have C2 := bigs_any aa ac n.acl w1 (hA1.mono hb.size) (by omega) HT.out
    by_cases h4 : n.acl.any bigAc = true
    · have R : Hid (rightN n = 3) := by unfold Hid rightN; simp only [h1, h4]; simp
      rw [h4] at C2
      have C2 := Lib.hid C2
      clear h1 h4 C1
      go_wp2_with fail
      refine C2.out.mono ?_
      rintro e w2 ⟨rfl, hb2⟩
      have hbb := hb.trans (hb2.mono hb.size)
      clear C2 hb hb2 hx1
      go_wp2
      go_ret
      exact ⟨ret_int R.out.symm, hbb⟩
    have h4' : n.acl.any bigAc = false := by simpa using h4
    have hT1 := hT.below hb hT.size
    rw [h4'] at C2
    have C2 := Lib.hid C2
    have hr4 : rightN n = if n.acl.any badAc then 1 else if badQ n then 1 else 0 := by
      unfold rightN
      rw [if_neg (by simp [h1]), if_neg (by rw [h4']; simp; omega)]
    have R4 := Lib.hid hr4
    clear h1 h4 h4' C1 hr4
    go_wp2_with fail
    refine C2.out.mono ?_
    rintro e w2 ⟨rfl, hb2⟩
    have hbb := hb.trans (hb2.mono hb.size)
    have hsz1 : w.heap.size < w1.heap.size := by
      have := block_lt_of_cell (show w1.cell? ⟨w.heap.size, 0, none⟩ = _ from hx1 0)
      exact this
    have hx2 := Box.below (b := w.heap.size) hx1 hb2 hsz1
    have hA2 := hA1.below (hb2.mono hb.size)
    have hT2 := hT1.below hb2 hT1.size
    have C3 := bads_any aa ac n.acl w2 (hA2.mono hbb.size) (by omega) HT.out hT2
    have hsz2 : w.heap.size < w2.heap.size := by have := hb2.size; omega
    clear C2 hb hb2 hx1 hA1 hA2 hT1
    unfold Box at hx2
    by_cases h5 : n.acl.any badAc = true
    · rw [h5] at C3
      have C3 := Lib.hid C3
      have R : Hid (rightN n = 1) := by unfold Hid; rw [R4.out, h5]; rfl
      clear h5 R4
      go_wp2_with fail
      refine C3.out.mono ?_
      rintro e w3 ⟨rfl, hb3⟩
      have hb4 := hbb.trans (hb3.mono hbb.size)
      clear C3 hbb hb3 hx2
      go_wp2
      go_ret
      exact ⟨ret_int R.out.symm, hb4⟩
    have h5' : n.acl.any badAc = false := by simpa using h5
    rw [h5'] at C3
    have C3 := Lib.hid C3
    have R : Hid (rightN n = if badQ n then 1 else 0) := by unfold Hid; rw [R4.out, h5']; rfl
    clear h5 h5' R4
    go_wp2_with fail
    refine C3.out.mono ?_
    rintro e w3 ⟨rfl, hb3⟩
    have hb4 := hbb.trans (hb3.mono hbb.size)
    have hx3 := Box.below (b := w.heap.size) hx2 hb3 hsz2
    have hsz3 : w.heap.size < w3.heap.size := by have := hb3.size; omega
    have hfin : ∀ o, Below w.heap.size w (w3.alloc o) := fun o => hb4.alloc (by omega) o
    have HFIN := Lib.hid hfin
    clear C3 hbb hb3 hx2 hfin
    unfold Box at hx3
    have HR : ∀ b : Bool, badQ n = b → rightN n = if b then 1 else 0 := fun b hbq => by rw [R.out, hbq]
    have HR := Lib.hid HR
    cases hh : n.has
    · have hq0 : badQ n = (n.count != 0 || n.bytes != 0) := by unfold badQ; rw [hh]; simp
      rw [hh] at hx3
      by_cases hc0 : n.count = 0
      · by_cases hb0 : n.bytes = 0
        · have R0 := Lib.hid (HR.out false (by rw [hq0, hc0, hb0]; rfl))
          have e1 : (n.count != 0) = false := by simp [hc0]
          have e2 : (n.bytes != 0) = false := by simp [hb0]
          clear hc0 hb0 hq0 hh
          go_wp2
          go_ret
          exact ⟨ret_int R0.out.symm, HFIN.out _⟩
        · have R0 := Lib.hid (HR.out true (by rw [hq0]; simp [hb0]))
          have e1 : (n.count != 0) = false := by simp [hc0]
          have e2 : (n.bytes != 0) = true := by simp [hb0]
          clear hc0 hb0 hq0 hh
          go_wp2
          go_ret
          exact ⟨ret_int R0.out.symm, HFIN.out _⟩
      · have R0 := Lib.hid (HR.out true (by rw [hq0]; simp [hc0]))
        have e1 : (n.count != 0) = true := by simp [hc0]
        clear hc0 hq0 hh
        go_wp2
        go_ret
        exact ⟨ret_int R0.out.symm, HFIN.out _⟩
    · have hq0 : badQ n = (decide (n.count < -1) || decide (n.bytes < -1)) := by unfold badQ; rw [hh]; simp
      rw [hh] at hx3
      by_cases hc0 : n.count < -1
      · have R0 := Lib.hid (HR.out true (by rw [hq0]; simp [hc0]))
        clear hq0 hh
        go_wp2
        go_ret
        exact ⟨ret_int R0.out.symm, HFIN.out _⟩
      · by_cases hb0 : n.bytes < -1
        · have R0 := Lib.hid (HR.out true (by rw [hq0]; simp [hb0]))
          have e1 : decide (n.count < -1) = false := by simpa using hc0
          clear hq0 hh
          go_wp2
          go_ret
          exact ⟨ret_int R0.out.symm, HFIN.out _⟩
        · have R0 := Lib.hid (HR.out false (by rw [hq0]; simp [hc0, hb0]))
          have e1 : decide (n.count < -1) = false := by simpa using hc0
          have e2 : decide (n.bytes < -1) = false := by simpa using hb0
          clear hq0 hh
          go_wp2
          go_ret
          exact ⟨ret_int R0.out.symm, HFIN.out _⟩
  · have C1 := fun w => valid_any n.path w (by omega)
    have h1' : vpath n.path = false := by simpa using h1
    have R : Hid (rightN n = 30) := by unfold Hid rightN; simp [h1']
    simp only [h1'] at C1
    have C1 := Lib.hid C1
    clear h1 h1'
    go_enter Tryz.func123, Tryz.ntmps123
    go_wp2_with fail
    refine (C1.out _).mono ?_
    rintro e w1 ⟨rfl, hb1⟩
    have hb : Below w.heap.size w w1 := hb0.trans (hb1.mono (by simp))
    clear hbox hb1 hb0
    go_wp2
    go_ret
    exact ⟨ret_int R.out.symm, hb⟩
end Go.Proofs.YthinpbdbhijbgaaGreatDoor
namespace Go.Proofs.YthinpbdbhijbgaaGreatDoor
open Go.RowKit
set_option maxHeartbeats 1000000
set_option maxRecDepth 100000

end Go.Proofs.YthinpbdbhijbgaaGreatDoor
namespace Go.Proofs.YthinpbdbhijbgaaGreatDoor
open Go.RowKit
set_option maxHeartbeats 1000000
set_option maxRecDepth 100000

end Go.Proofs.YthinpbdbhijbgaaGreatDoor
namespace Go.Proofs.YthinpbdbhijbgaaGreatDoor
open Go.RowKit
set_option maxHeartbeats 2000000
set_option maxRecDepth 100000

theorem Keeps.grow {B bb : Nat} {w w' : World} {l : List UInt8} (hw : Wr B w bb l) (hb : Below w.heap.size w w') : Keeps bb w w' :=
  ⟨hb.size, fun g hg ha => ⟨hb.block g hg, ha.1, fun v hv => ha.2 v (by rw [← hb.block bb hw.size]; exact hv)⟩⟩
theorem sizeNd : (Tryz.prog.info? 44).map (·.size) = some 17 := by kernel_rfl

end Go.Proofs.YthinpbdbhijbgaaGreatDoor
namespace Go.Proofs.YthinpbdbhijbgaaGreatDoor
open Go.RowKit

/-- A node's value: its cells, the two slices' cells below a block number. -/
def NdV (B : Nat) (w : World) (v : Value) (n : Nd) : Prop :=
  ∃ da dc aa ac, v = .agg (ndC n (.slice da n.data.length dc) (.slice aa n.acl.length ac)) ∧ Cells B w da (n.data.map u8v) ∧ Cells B w aa (acCs n.acl)
theorem cells_node (n : Nd) (d a : Option Addr) (k k' c c' : Nat) : (ndC n (.slice d k c) (.slice a k' c')).all (·.oneCell') = true := by
  simp [ndC, Value.oneCell']
end Go.Proofs.YthinpbdbhijbgaaGreatDoor
namespace Go.Proofs.YthinpbdbhijbgaaGreatDoor
open Go.ChangeShapes Go.WideShapes Go.ChangeAt Go.RowKit Go.Deep
set_option maxHeartbeats 2000000
set_option maxRecDepth 100000

theorem Tryz.cells_node : Tryz.prog.cellsOf 44 = 17 := by kernel_rfl
theorem Tryz.cells_quota : Tryz.prog.cellsOf 23 = 3 := by kernel_rfl
theorem Tryz.cells_i64 : Tryz.prog.cellsOf 2 = 1 := by kernel_rfl
theorem Tryz.cells_bool : Tryz.prog.cellsOf 4 = 1 := by kernel_rfl
section
variable {H : Type} {enc : TypeId × Value → H} {w : World} {fuel : Nat}

instance : Inhabited Ac := ⟨⟨0, ⟨#[]⟩, ⟨#[]⟩⟩⟩

end
end Go.Proofs.YthinpbdbhijbgaaGreatDoor
