/- Plain laws on characters and paths: which bytes are a path. No program in sight. Plain laws on memory: cells that a slice shows; an append from whatever source to a row of the call's own. The walks of package runes: the kind of a character; the first one that no path may have. The walks of the writer: bytes behind bytes. The walks of the writer, more: numbers, texts, lists. The walks of the three clones of slices. The walks of package paths up to Valid: whether a text is a path. Plain laws: a character read by hand, as the document's reference reads it, is the model's decoding. Plain laws: texts that are UTF-8, as the reference looks at them byte by byte. -/
import Derived.Laws.RangeAny
import Derived.RowKit
import Derived.WalkKit
import Derived.WalkSpells
import Derived.Deep.AppendSrc
import Derived.Lib.Hide
import Derived.Test.YthinpbdbhijbgaaGreatDoorShelf
import Derived.WalkLawsBesides
import Derived.Deep.Light
import Derived.Lib.IndexLaws
import Derived.Deep.QuietTactic
import Derived.BigQuiet
import Derived.Lib.ValidLaws
namespace Go.Proofs.YthinpbdbhijbgaaGreatDoor
open Go.RowKit

/-- A character that a path may have. -/
def pl (r : Nat) : Bool := (32 ≤ r && r ≤ 126) || (160 ≤ r && r < 55296) || (63744 ≤ r && r < 65520)

/-- The byte at a place, 0 behind the end. -/
def bat (s : ByteArray) (i : Nat) : Nat := (s.get! i).toNat

theorem bat_lt (s : ByteArray) (i : Nat) : bat s i < 256 := UInt8.toNat_lt _

theorem bat_get (s : ByteArray) (i : Nat) (h : i < s.size) : bat s i = (s[i]'h).toNat := by
  have := Go.get_at s i h; simp only [Nat.add_zero] at this; unfold bat; rw [this]

theorem dec_eq (s : ByteArray) (i : Nat) : Utf8.decode s i =
  let cont (k : Nat) : Bool := i + k < s.size && bat s (i + k) / 64 == 2
  if bat s i < 0x80 then (bat s i, 1)
  else if bat s i / 32 == 6 && cont 1 then
    let c := (bat s i % 32) * 64 + bat s (i + 1) % 64
    if c ≥ 0x80 then (c, 2) else (65533, 1)
  else if bat s i / 16 == 14 && cont 1 && cont 2 then
    let c := (bat s i % 16) * 4096 + (bat s (i + 1) % 64) * 64 + bat s (i + 2) % 64
    if c ≥ 0x800 && Utf8.valid c then (c, 3) else (65533, 1)
  else if bat s i / 8 == 30 && cont 1 && cont 2 && cont 3 then
    let c := (bat s i % 8) * 262144 + (bat s (i + 1) % 64) * 4096 + (bat s (i + 2) % 64) * 64 + bat s (i + 3) % 64
    if c ≥ 0x10000 && Utf8.valid c then (c, 4) else (65533, 1)
  else (65533, 1) := rfl

/-- What a decoding says of its place. -/
structure Dec (s : ByteArray) (p : Nat) : Prop where
  pos : 1 ≤ (Utf8.decode s p).2
  fits : p + (Utf8.decode s p).2 ≤ s.size
  tail : ∀ k, 0 < k → k < (Utf8.decode s p).2 → 128 ≤ bat s (p + k)
  one : (Utf8.decode s p).2 = 1 → (Utf8.decode s p).1 ≠ 65533 → (Utf8.decode s p).1 = bat s p ∧ bat s p < 128
  more : (Utf8.decode s p).2 ≠ 1 → 128 ≤ (Utf8.decode s p).1 ∧ 128 ≤ bat s p
  ascii : bat s p < 128 → Utf8.decode s p = (bat s p, 1)

theorem dec (s : ByteArray) (p : Nat) (h : p < s.size) : Dec s p := by
  have e := dec_eq s p
  simp only [] at e
  have asc : bat s p < 128 → Utf8.decode s p = (bat s p, 1) := fun h => by rw [e, if_pos h]
  by_cases h0 : bat s p < 128
  · have := asc h0
    exact ⟨by rw [this]; simp, by rw [this]; simp; omega, by rw [this]; intro k h1 h2; simp at h2; omega, by rw [this]; simp [h0], by rw [this]; simp, asc⟩
  · rw [if_neg h0] at e
    have b1 := bat_lt s (p+1); have b2 := bat_lt s (p+2); have b3 := bat_lt s (p+3); have b0 := bat_lt s p
    split at e
    · rename_i h1
      simp only [Bool.and_eq_true, beq_iff_eq, decide_eq_true_eq] at h1
      split at e <;> (refine ⟨by rw [e]; simp, by rw [e]; simp; omega, ?_, by rw [e]; simp, by rw [e]; simp; try omega, asc⟩; rw [e]; intro k k1 k2; simp at k2; try omega)
      · obtain rfl : k = 1 := by omega
        omega
    · split at e
      · rename_i h1
        simp only [Bool.and_eq_true, beq_iff_eq, decide_eq_true_eq] at h1
        split at e
        · rename_i h2
          simp only [Bool.and_eq_true, decide_eq_true_eq] at h2
          refine ⟨by rw [e]; simp, by rw [e]; simp; omega, ?_, by rw [e]; simp, by rw [e]; simp; omega, asc⟩
          rw [e]; intro k k1 k2; simp at k2
          rcases (by omega : k = 1 ∨ k = 2) with rfl | rfl <;> omega
        · refine ⟨by rw [e]; simp, by rw [e]; simp; omega, ?_, by rw [e]; simp, by rw [e]; simp, asc⟩
          rw [e]; intro k k1 k2; simp at k2; omega
      · split at e
        · rename_i h1
          simp only [Bool.and_eq_true, beq_iff_eq, decide_eq_true_eq] at h1
          split at e
          · rename_i h2
            simp only [Bool.and_eq_true, decide_eq_true_eq] at h2
            refine ⟨by rw [e]; simp, by rw [e]; simp; omega, ?_, by rw [e]; simp, by rw [e]; simp; omega, asc⟩
            rw [e]; intro k k1 k2; simp at k2
            rcases (by omega : k = 1 ∨ k = 2 ∨ k = 3) with rfl | rfl | rfl <;> omega
          · refine ⟨by rw [e]; simp, by rw [e]; simp; omega, ?_, by rw [e]; simp, by rw [e]; simp, asc⟩
            rw [e]; intro k k1 k2; simp at k2; omega
        · refine ⟨by rw [e]; simp, by rw [e]; simp; omega, ?_, by rw [e]; simp, by rw [e]; simp, asc⟩
          rw [e]; intro k k1 k2; simp at k2; omega

/-- The first character, from a place on, that no path may have; -1: none. -/
def fb (s : ByteArray) : Nat → Nat → Int
  | 0, _ => -1
  | f + 1, p => if p < s.size then (if pl (Utf8.decode s p).1 then fb s f (p + (Utf8.decode s p).2) else p) else -1

/-- The part that begins at a place. -/
def partL (s : ByteArray) (p : Nat) : List UInt8 := (s.data.toList.drop p).takeWhile (· != 47)

/-- The part that begins at a place is one or two dots. -/
def dots (s : ByteArray) (p : Nat) : Bool := partL s p == [46] || partL s p == [46, 46]

/-- What must be so at a slash. -/
def sep (s : ByteArray) (p : Nat) : Bool := bat s p != 47 || (!(0 < p && bat s (p - 1) == 47) && !dots s (p + 1))

/-- From a place on all characters are good, and all slashes. -/
def scan (s : ByteArray) : Nat → Nat → Bool
  | 0, _ => true
  | f + 1, p => if p < s.size then pl (Utf8.decode s p).1 && sep s p && scan s f (p + (Utf8.decode s p).2) else true

/-- A path. -/
def vpath (s : ByteArray) : Bool :=
  s.size != 0 && s.size ≤ 4096 && bat s 0 == 47 && (s.size == 1 || (bat s (s.size - 1) != 47 && scan s s.size 0))

/-- fuel does not matter -/
theorem scan_fuel (s : ByteArray) : ∀ (f g p : Nat), s.size ≤ p + f → s.size ≤ p + g → scan s f p = scan s g p
  | 0, 0, p, _, _ => rfl
  | 0, g + 1, p, hf, _ => by
    have : ¬ p < s.size := by omega
    simp only [scan, if_neg this]
  | f + 1, 0, p, _, hg => by
    have : ¬ p < s.size := by omega
    simp only [scan, if_neg this]
  | f + 1, g + 1, p, hf, hg => by
    simp only [scan]
    by_cases hp : p < s.size
    · have d := (dec s p hp).pos
      rw [if_pos hp, if_pos hp, scan_fuel s f g _ (by omega) (by omega)]
    · rw [if_neg hp, if_neg hp]

theorem fb_fuel (s : ByteArray) : ∀ (f g p : Nat), s.size ≤ p + f → s.size ≤ p + g → fb s f p = fb s g p
  | 0, 0, p, _, _ => rfl
  | 0, g + 1, p, hf, _ => by
    have : ¬ p < s.size := by omega
    simp only [fb, if_neg this]
  | f + 1, 0, p, _, hg => by
    have : ¬ p < s.size := by omega
    simp only [fb, if_neg this]
  | f + 1, g + 1, p, hf, hg => by
    simp only [fb]
    by_cases hp : p < s.size
    · have d := (dec s p hp).pos
      rw [if_pos hp, if_pos hp, fb_fuel s f g _ (by omega) (by omega)]
    · rw [if_neg hp, if_neg hp]

/-- The scan from a place on, with fuel enough. -/
def scanAt (s : ByteArray) (p : Nat) : Bool := scan s s.size p
def fbAt (s : ByteArray) (p : Nat) : Int := fb s s.size p

theorem scanAt_step (s : ByteArray) (p : Nat) (h : p < s.size) : scanAt s p = (pl (Utf8.decode s p).1 && sep s p && scanAt s (p + (Utf8.decode s p).2)) := by
  have d := (dec s p h).pos
  unfold scanAt
  rw [scan_fuel s s.size (s.size + 1) p (by omega) (by omega)]
  simp only [scan, if_pos h]
theorem scanAt_end (s : ByteArray) (p : Nat) (h : s.size ≤ p) : scanAt s p = true := by
  unfold scanAt
  rw [scan_fuel s s.size 0 p (by omega) (by omega)]; rfl
theorem fbAt_step (s : ByteArray) (p : Nat) (h : p < s.size) : fbAt s p = if pl (Utf8.decode s p).1 then fbAt s (p + (Utf8.decode s p).2) else p := by
  have d := (dec s p h).pos
  unfold fbAt
  rw [fb_fuel s s.size (s.size + 1) p (by omega) (by omega)]
  simp only [fb, if_pos h]
theorem fbAt_end (s : ByteArray) (p : Nat) (h : s.size ≤ p) : fbAt s p = -1 := by
  unfold fbAt
  rw [fb_fuel s s.size 0 p (by omega) (by omega)]; rfl
theorem fbAt_ge (s : ByteArray) (p : Nat) : fbAt s p = -1 ∨ (p : Int) ≤ fbAt s p := by
  generalize hn : s.size - p = n
  induction n using Nat.strongRecOn generalizing p with
  | ind n ih =>
    by_cases h : p < s.size
    · rw [fbAt_step s p h]
      have d := (dec s p h).pos
      split
      · rcases ih (s.size - (p + (Utf8.decode s p).2)) (by omega) _ rfl with h1 | h1
        · exact .inl h1
        · right; omega
      · right; omega
    · left; exact fbAt_end s p (by omega)
end Go.Proofs.YthinpbdbhijbgaaGreatDoor
namespace Go.Proofs.YthinpbdbhijbgaaGreatDoor
open Go.RowKit

def u8v (b : UInt8) : Value := .int .u8 b.toNat

/-- The cells that a slice shows, all below a block number. -/
def Cells (B : Nat) (w : World) (a : Option Addr) (xs : List Value) : Prop :=
  ∀ j u, xs[j]? = some u → ∃ b off, a = some ⟨b, off, none⟩ ∧ b < B ∧ w.cell? ⟨b, off + j, none⟩ = some u

theorem Cells.nil (B : Nat) (w : World) (a : Option Addr) : Cells B w a [] := fun j u h => by simp at h
theorem Cells.below {B : Nat} {w w' : World} {a : Option Addr} {xs : List Value} (h : Cells B w a xs) (hb : Below B w w') : Cells B w' a xs := fun j u hj => by
  obtain ⟨b, off, ha, hlt, hc⟩ := h j u hj
  exact ⟨b, off, ha, hlt, (hb.cell (p := ⟨b, off + j, none⟩) hlt).trans hc⟩
theorem Cells.mono {B B' : Nat} {w : World} {a : Option Addr} {xs : List Value} (h : Cells B w a xs) (hB : B ≤ B') : Cells B' w a xs := fun j u hj => by
  obtain ⟨b, off, ha, hlt, hc⟩ := h j u hj
  exact ⟨b, off, ha, by omega, hc⟩
theorem Cells.at {B : Nat} {w : World} {a : Option Addr} {xs : List Value} (h : Cells B w a xs) (j : Nat) (hj : j < xs.length) : ∃ b off, a = some ⟨b, off, none⟩ ∧ b < B ∧ w.cell? ⟨b, off + j, none⟩ = some xs[j] :=
  h j xs[j] (List.getElem?_eq_getElem hj)

theorem Cells.src {P : Program} {size : Nat} {tx e' : TypeId} (hk : P.underlying tx = some (.slice e')) {B : Nat} {w : World} {a : Option Addr} (n c : Nat) {xs : List Value} (h : Cells B w a xs)
    (hl : xs.length = n * size) (h1 : ∀ u ∈ xs, u.oneCell' = true) : Src P size tx (.slice a n c) n xs w := by
  cases a with
  | some p =>
    refine Src.ofSlice w hk p n c xs hl (fun j u hj => ?_) h1
    obtain ⟨b, off, ha, _, hc⟩ := h j u hj
    obtain rfl : p = ⟨b, off, none⟩ := Option.some.inj ha
    rw [show (⟨b, off, none⟩ : Addr).add j = ⟨b, off + j, none⟩ from by unfold Addr.add; split <;> simp_all]
    exact hc
  | none =>
    have hx : xs = [] := by
      cases xs with
      | nil => rfl
      | cons u l => obtain ⟨_, _, ha, _⟩ := h 0 u rfl; cases ha
    subst hx
    refine ⟨.inl ⟨e', hk⟩, fun _ => rfl, ?_, ?_, hl, fun _ h => by cases h⟩
    · simp [Builtin.firstCells]
    · simp [Builtin.firstCells]

section
variable {P : Program} (w : World)

theorem run_append_own_src (base : Nat) (t tx ty e : TypeId) (i : TypeInfo) (z : Value) (size bytes : Nat) (ht : P.underlying t = some (.slice e)) (hi : P.info? e = some i) (hz : i.zero = some z)
    (hsize : i.size = size) (hby : i.bytes = bytes) (hzs : z.cells.size = size) (hsz : 0 < size)
    (v : Value) (n : Nat) (xs : List Value) (hown : w.ownsRow base e size v n xs)
    (x : Value) (m : Nat) (news : List Value) (hs : Src P size tx x m news w)
    (h63 : n + m ≤ maxLen) (hbytes : (n + m) * bytes ≤ 140737488355328) (hbase : base ≤ w.heap.size) :
    ∃ v' w', (Builtin.append_ #[t, tx] ty #[v, x]).run P w = .ok v' w' ∧ w'.ownsRow base e size v' (n + m) (xs ++ news) ∧ w.grownBy w' v.ownBlock ∧
      (v' = .slice none 0 0 ↔ v = .slice none 0 0 ∧ m = 0) ∧ (v'.ownBlock = v.ownBlock ∨ v'.ownBlock = some w.heap.size) := by
  subst hsize
  subst hby
  have hl := hs.newsLen
  have hsmall : n + m ≤ 9223372036854775807 := by simp only [maxLen] at h63; omega
  have hlen : (xs ++ news).length = (n + m) * i.size := by rw [List.length_append, hown.1, hl, Nat.add_mul]
  have grown : ∀ (old : Nat), old < n + m → ∀ (row : Option Nat),
      (w.drew.alloc (.cells ((xs ++ news).toArray ++ Builtin.zeroCells z.cells (grownCap w (n + m) old e - (n + m))) e)).ownsRow base e i.size
        (.slice (some ⟨w.heap.size, 0, none⟩) (n + m) (grownCap w (n + m) old e)) (n + m) (xs ++ news) ∧
      w.grownBy (w.drew.alloc (.cells ((xs ++ news).toArray ++ Builtin.zeroCells z.cells (grownCap w (n + m) old e - (n + m))) e)) row := by
    intro old ho row
    have hge := grownCap_ge w (n + m) old e
    have hcm : grownCap w (n + m) old e ≤ maxLen := grownCap_le_maxLen w (n + m) old e h63
    refine ⟨⟨hlen, .inr ⟨w.heap.size, _, _, rfl, hbase, heap_alloc_new w.drew _, hge, hcm, ?_, ?_⟩⟩, ⟨rfl, rfl, rfl, by simp, fun k hk _ => heap_alloc_old w.drew _ hk⟩⟩
    · simp only [Array.size_append, List.size_toArray, size_zeroCells, hzs, hlen, ← Nat.add_mul]
      congr 1
      omega
    · simp only [Array.toList_append]
      rw [← hlen]
      exact List.take_left
  rcases hown.2 with ⟨rfl, rfl⟩ | ⟨g, cap, cur, rfl, hbg, hg, hnc, hcm, hcs, htake⟩
  · have hx : xs = [] := List.eq_nil_of_length_eq_zero (by simpa using hown.1)
    subst hx
    by_cases hm : m = 0
    · subst hm
      have hn : news = [] := List.eq_nil_of_length_eq_zero (by simpa using hl)
      subst hn
      refine ⟨.slice none 0 0, w, ?_, World.ownsRow_nil w base e i.size, ⟨rfl, rfl, rfl, Nat.le_refl _, fun _ _ _ => rfl⟩, by simp, .inl rfl⟩
      have h1 := hs.len
      have h2 := hs.cells
      rcases hs.kind with ⟨e', hk⟩ | hk <;> simp [Builtin.append_, run_underlying ht, run_underlying hk, sizeOf, typeInfo, hi, h1, h2]
    · have hr := run_append_grow_src (P := P) w t tx ty e i z ht hi hz none 0 0 [] (by simp [Builtin.firstCells]) x m news hs (by omega) (by omega) (growslice_fits (by omega) hbytes)
      have hgr := grown 0 (by omega) (Value.ownBlock (.slice none 0 0))
      exact ⟨_, _, hr, hgr.1, hgr.2, by simp [hm], .inr rfl⟩
  · by_cases hroom : n + m ≤ cap
    · have hfit : n * i.size + news.length ≤ cur.size := by rw [hl, hcs, ← Nat.add_mul]; exact Nat.mul_le_mul_right _ hroom
      have hr : (Builtin.append_ #[t, tx] ty #[.slice (some ⟨g, 0, none⟩) n cap, x]).run P w =
          .ok (.slice (some ⟨g, 0, none⟩) (n + m) cap) (w.setRow g (cur.toList.take (n * i.size) ++ news ++ cur.toList.drop (n * i.size + news.length)).toArray) := by
        have hst := run_storeCells_at P g (n * i.size) e news 0 cur w hg (by simpa using hfit) hs.one
        simp only [Nat.add_zero] at hst
        have h1 := hs.len
        have h2 := hs.cells
        rcases hs.kind with ⟨e', hk⟩ | hk <;> simp [Builtin.append_, run_underlying ht, run_underlying hk, sizeOf, typeInfo, hi, h1, hroom, h2, Addr.add_lit, hst]
      refine ⟨_, _, hr, ⟨hlen, .inr ⟨g, cap, _, rfl, hbg, setRow_heap w g cur _ e _ hg, hroom, hcm, ?_, ?_⟩⟩, ⟨rfl, rfl, rfl, by simp, fun k _ hk => setRow_other w g k _ (fun e => hk (by simp [Value.ownBlock, e]))⟩, by simp, .inl rfl⟩
      · simp only [List.size_toArray, List.length_append, List.length_take, List.length_drop, Array.length_toList]
        omega
      · rw [htake, ← hlen]
        exact List.take_left
    · have holds : ∀ j u, xs[j]? = some u → w.drew.cell? ((⟨g, 0, none⟩ : Addr).add j) = some u := fun j u hj => by simpa using hown.cells (g := g) rfl j u hj
      have hr := run_append_grow_src (P := P) w t tx ty e i z ht hi hz (some ⟨g, 0, none⟩) n cap xs (run_firstCells_some w.drew i.size n ⟨g, 0, none⟩ n cap xs hown.1 holds) x m news hs (by omega) (by omega) (growslice_fits (by omega) hbytes)
      have hgr := grown cap (by omega) (Value.ownBlock (.slice (some ⟨g, 0, none⟩) n cap))
      exact ⟨_, _, hr, hgr.1, hgr.2, by simp, .inr rfl⟩

theorem wpList_append_src {ops : Array Oper} {rest : List Oper} {o : Oper} {a : Act} {Q : Exit → Act → World → Prop} (hgd : o.guard = none) (s x : Operand) (t tx : TypeId)
    (ho : o.op = .call { callee := .builtin .append, args := #[s, x], argTypes := #[t, tx] })
    (base : Nat) (e : TypeId) (i : TypeInfo) (z : Value) (size bytes : Nat) (ht : P.underlying t = some (.slice e)) (hi : P.info? e = some i) (hz : i.zero = some z)
    (hsize : i.size = size) (hby : i.bytes = bytes) (hzs : z.cells.size = size) (hsz : 0 < size)
    (v : Value) (n : Nat) (xs : List Value) (hv : a.eval s = v) (hown : w.ownsRow base e size v n xs)
    (xv : Value) (m : Nat) (news : List Value) (hx : a.eval x = xv) (hs : Src P size tx xv m news w)
    (h63 : n + m ≤ maxLen) (hbytes : (n + m) * bytes ≤ 140737488355328) (hbase : base ≤ w.heap.size)
    (h : ∀ v' w', w'.ownsRow base e size v' (n + m) (xs ++ news) → w.grownBy w' v.ownBlock → (v' = .slice none 0 0 ↔ v = .slice none 0 0 ∧ m = 0) → (v'.ownBlock = v.ownBlock ∨ v'.ownBlock = some w.heap.size) → wpList P ops Q rest (a.put o.dst v') w') : wpList P ops Q (o :: rest) a w :=
  wpList_plain hgd fun K hK => by
    obtain ⟨v', w', hr, h2, h3, h4, h5⟩ := run_append_own_src (P := P) w base t tx o.type e i z size bytes ht hi hz hsize hby hzs hsz v n xs hown xv m news hs h63 hbytes hbase
    unfold Oper.wp execOp
    simp only [ho, resolve, invoke, builtin, Sem.run_bind, Sem.run_pure, Result.andThen_ok, List.map_toArray, List.map_cons, List.map_nil, hv, hx, hr]
    exact hK _ _ (h v' w' h2 h3 h4 h5)
end
end Go.Proofs.YthinpbdbhijbgaaGreatDoor
namespace Go.Proofs.YthinpbdbhijbgaaGreatDoor
open Go.RowKit
set_option maxHeartbeats 400000
set_option maxRecDepth 100000

/-- The kind of a character, as runes.Kind has it. -/
def kindN (r : Int) : Int :=
  if r < 0 ∨ 1114111 < r then 0 else if r = 0 then 2 else if r ≤ 31 ∨ (127 ≤ r ∧ r ≤ 159) then 3 else if 55296 ≤ r ∧ r ≤ 57343 then 4
  else if 57344 ≤ r ∧ r ≤ 63743 then 5 else if 65520 ≤ r ∧ r ≤ 65535 then 6 else if 65536 ≤ r then 7 else 1

theorem kindN_pl (r : Nat) : kindN r = 1 ↔ pl r = true := by
  simp only [kindN, pl, Bool.or_eq_true, Bool.and_eq_true, decide_eq_true_eq]
  repeat' split
  all_goals omega

theorem ret_int {k : IntKind} {a b : Int} (h : a = b) : Ending.returned (.int k a) = .returned (.int k b) := by rw [h]

theorem kind_any (r : Int) (w : World) : Calls Tryz.prog 275 #[.int .i32 r] w fun e w' => e = .returned (.int .i64 (kindN r)) ∧ w = w' := by
  go_enter Tryz.func275, Tryz.ntmps275
  go_wp2
  all_goals (try go_ret)
  all_goals (refine ⟨ret_int ?_, rfl⟩; go_light; (try simp only [beq_iff_eq, beq_eq_false_iff_ne, ne_eq] at *); unfold kindN; repeat' split)
  all_goals (first | rfl | (exfalso; omega))

theorem of_any (s : ByteArray) (at' r : Nat) (w : World) (h : at' ≤ s.size) : Calls Tryz.prog 255 #[.string s, .int .i64 at', .int .i32 r] w fun e w' => ∃ k : Int, e = .returned (.int .i64 k) ∧ (k = 1 ↔ pl r = true) ∧ w = w' := by
  by_cases h1 : r = 65533
  · subst h1
    go_enter Tryz.func255, Tryz.ntmps255
    go_wp2_with (first | (go_at_call 132; refine (Tryz.strings_HasPrefix _ _ _).mono ?_; rintro e w' ⟨rfl, rfl⟩) | (go_at_call 275; refine (kind_any _ _).mono ?_; rintro e w' ⟨rfl, rfl⟩))
    · go_ret
      exact ⟨_, rfl, by decide, rfl⟩
    · go_ret
      exact ⟨_, rfl, kindN_pl 65533, rfl⟩
  · have h2 : ((r : Int) == 65533) = false := by simp; omega
    go_enter Tryz.func255, Tryz.ntmps255
    go_wp2_with (go_at_call 275; refine (kind_any _ _).mono ?_; rintro e w' ⟨rfl, rfl⟩)
    go_ret
    exact ⟨_, rfl, kindN_pl r, rfl⟩
theorem first_any (s : ByteArray) (w : World) : Calls Tryz.prog 221 #[.string s] w fun e w' => ∃ (k : Int) (pos : Nat), e = .returned (.tuple #[.int .i64 (fbAt s 0), .int .i64 k]) ∧ w' = w.iter s pos := by
  go_enter Tryz.func221, Tryz.ntmps221
  go_wp2
  go_loopw [4] (fun _ wr => ∃ pos : Nat, wr = w.iter s pos ∧ pos ≤ s.size ∧ Hid (fbAt s pos = fbAt s 0)) (fun _ wr => s.size - wr.iterPos w.heap.size)
  case atStart => exact ⟨0, rfl, Nat.zero_le _, rfl⟩
  case round =>
    obtain ⟨pos, rfl, hpos, H⟩ := hrel
    by_cases hlt : pos < s.size
    · have hs := fbAt_step s pos hlt
      have d := dec s pos hlt
      have hd1 := d.pos
      have hd2 := d.fits
      clear d
      have hn := run_next_any (P := Tryz.prog) w s pos
      by_cases hpl : pl (Utf8.decode s pos).1 = true
      · rw [if_pos hpl] at hs
        have H2 : Hid (fbAt s (pos + (Utf8.decode s pos).2) = fbAt s 0) := hs.symm.trans H
        clear hs H
        go_wp2_with fail
        refine (of_any s pos (Utf8.decode s pos).1 _ hpos).mono ?_
        rintro e w' ⟨k, rfl, hk, rfl⟩
        obtain rfl : k = 1 := hk.2 hpl
        clear hk
        go_wp2
        go_roundw
        case rel => exact ⟨_, rfl, hd2, H2⟩
        case measure => simp; omega
      · rw [if_neg hpl] at hs
        have H2 : Hid (fbAt s 0 = (pos : Int)) := (H.symm.trans hs)
        clear hs H
        go_wp2_with fail
        refine (of_any s pos (Utf8.decode s pos).1 _ hpos).mono ?_
        rintro e w' ⟨k, rfl, hk, rfl⟩
        have hk1 : (k != 1) = true := by simp; intro h; exact hpl (hk.1 h)
        clear hk
        go_wp2
        go_ret2
        exact ⟨k, pos + (Utf8.decode s pos).2, by rw [H2.out]; rfl, rfl⟩
    · have H2 : Hid (fbAt s 0 = -1) := H.symm.trans (fbAt_end s pos (by omega))
      have hn := run_next_end (P := Tryz.prog) w s pos
      go_wp2
      go_ret2
      exact ⟨1, pos, by rw [H2.out]; rfl, rfl⟩
end Go.Proofs.YthinpbdbhijbgaaGreatDoor
namespace Go.Proofs.YthinpbdbhijbgaaGreatDoor
open Go.RowKit
set_option maxHeartbeats 400000
set_option maxRecDepth 100000

theorem infoU8 : (Tryz.prog.info? 5).map (fun i => (i.zero, i.size, i.bytes)) = some (some (.int .u8 0), 1, 1) := by kernel_rfl

theorem ownsRow_keep {w w' : World} {base e size n : Nat} {v : Value} {xs : List Value} (h : w.ownsRow base e size v n xs) (hk : ∀ g, v.ownBlock = some g → w'.heap[g]? = w.heap[g]?) : w'.ownsRow base e size v n xs := by
  refine ⟨h.1, ?_⟩
  rcases h.2 with h | ⟨g, cap, cur, rfl, h1, h2, h3⟩
  · exact .inl h
  · exact .inr ⟨g, cap, cur, rfl, h1, (hk g rfl).trans h2, h3⟩

theorem ownsRow_slice {w : World} {base e size n : Nat} {v : Value} {xs : List Value} (h : w.ownsRow base e size v n xs) : ∃ a m c, v = .slice a m c := by
  rcases h.2 with ⟨h, _⟩ | ⟨g, cap, cur, h, _⟩ <;> exact ⟨_, _, _, h⟩

/-- A writer: a block of one cell, which holds a row of the call's own. -/
def Wr (B : Nat) (w : World) (bb : Nat) (l : List UInt8) : Prop :=
  B ≤ bb ∧ ∃ v, w.heap[bb]? = some (.cells #[v] 272 (0, 0)) ∧ w.ownsRow B 5 1 v l.length (l.map u8v)

theorem one_u8 (xs : List UInt8) : ∀ u ∈ xs.map u8v, u.oneCell' = true := fun u hu => by
  obtain ⟨_, _, rfl⟩ := List.mem_map.1 hu; rfl

/-- A block that is neither the writer's own nor its row's. -/
def Apart (w : World) (bb g : Nat) : Prop := g ≠ bb ∧ ∀ v, w.heap[bb]? = some (.cells #[v] 272 (0, 0)) → v.ownBlock ≠ some g
/-- What the writer leaves as it is. -/
def Keeps (bb : Nat) (w w' : World) : Prop := w.heap.size ≤ w'.heap.size ∧ ∀ g, g < w.heap.size → Apart w bb g → w'.heap[g]? = w.heap[g]? ∧ Apart w' bb g
theorem Keeps.refl (bb : Nat) (w : World) : Keeps bb w w := ⟨Nat.le_refl _, fun _ _ h => ⟨rfl, h⟩⟩
theorem Keeps.trans {bb : Nat} {a b c : World} (h : Keeps bb a b) (k : Keeps bb b c) : Keeps bb a c :=
  ⟨Nat.le_trans h.1 k.1, fun g hg ha => let x := h.2 g hg ha; let y := k.2 g (Nat.lt_of_lt_of_le hg h.1) x.2; ⟨y.1.trans x.1, y.2⟩⟩
theorem Keeps.alloc {bb : Nat} (w : World) (hb : bb < w.heap.size) (o : Obj) : Keeps bb w (w.alloc o) :=
  ⟨by simp, fun g hg ha => ⟨Below.heap_alloc _ _ _ hg, ha.1, fun v hv => ha.2 v (by rw [← Below.heap_alloc w o bb hb]; exact hv)⟩⟩

def PutOut (B bb : Nat) (l : List UInt8) (w : World) (e : Ending) (w' : World) : Prop := e = .returned (.tuple #[]) ∧ Wr B w' bb l ∧ Below B w w' ∧ Keeps bb w w'

theorem put_any (B bb : Nat) (l : List UInt8) (a : Option Addr) (n c : Nat) (B' : Nat) (xs : List UInt8) (w : World) (hw : Wr B w bb l) (hc : Cells B' w a (xs.map u8v)) (hn : n = xs.length) (hlen : l.length + xs.length ≤ 70368744177664) :
    Calls Tryz.prog 252 #[.pointer (some ⟨bb, 0, none⟩), .slice a n c] w (PutOut B bb (l ++ xs) w) := by
  subst hn
  obtain ⟨hB, v, hb, hown⟩ := hw
  have hcell : w.cell? ⟨bb, 0, none⟩ = some v := by simp [World.cell?, hb]
  have hsz : bb < w.heap.size := (Array.getElem?_eq_some_iff.1 hb).1
  have hne : v.ownBlock ≠ some bb := fun e => by
    rcases hown.2 with ⟨rfl, _⟩ | ⟨g, cap, cur, rfl, h1, h2, h3⟩
    · cases e
    · simp only [Value.ownBlock, Option.some.injEq] at e
      subst e
      rw [hb] at h2
      simp at h2
  obtain ⟨i0, hi, hz0, hz1, hz2⟩ := info_parts infoU8
  have hsrc : Src Tryz.prog 1 41 (.slice a xs.length c) xs.length (xs.map u8v) w := hc.src Tryz.underlying41 _ _ (by simp) (one_u8 xs)
  have fin : ∀ v' w1, w1.ownsRow B 5 1 v' (l.length + xs.length) (l.map u8v ++ xs.map u8v) → w.grownBy w1 v.ownBlock → (v'.ownBlock = v.ownBlock ∨ v'.ownBlock = some w.heap.size) → PutOut B bb (l ++ xs) w (.returned (.tuple #[])) (w1.setCell ⟨bb, 0, none⟩ v') := by
    intro v' w1 ho hg hob
    have hbb : w1.heap[bb]? = some (.cells #[v] 272 (0, 0)) := (hg.block bb hsz (fun e => hne e.symm)).trans hb
    have hne' : v'.ownBlock ≠ some bb := fun e => by
      rcases ho.2 with ⟨rfl, _⟩ | ⟨g, cap, cur, rfl, h1, h2, h3⟩
      · cases e
      · simp only [Value.ownBlock, Option.some.injEq] at e
        subst e
        rw [hbb] at h2
        simp at h2
    refine ⟨rfl, ⟨hB, v', ?_, ?_⟩, ?_, ?_⟩
    · simp [World.setCell, Array.getElem?_modify, hbb]
    · have := ownsRow_keep (w' := w1.setCell ⟨bb, 0, none⟩ v') ho (fun g hgg => Below.heap_setCell _ _ _ _ (fun e => hne' (by rw [hgg, e])))
      simpa using this
    · refine (Below.refl B w).grown hg (by omega) (fun k hk => ?_) |>.setCell (p := ⟨bb, 0, none⟩) hB _
      rcases hown.2 with ⟨rfl, _⟩ | ⟨g, cap, cur, rfl, h1, h2, h3⟩
      · cases hk
      · simp only [Value.ownBlock, Option.some.injEq] at hk; omega
    · refine ⟨by simpa [World.setCell] using hg.size, fun g hgs ha => ⟨?_, ha.1, fun u hu => ?_⟩⟩
      · rw [Below.heap_setCell _ _ _ _ ha.1]
        exact hg.block g hgs (fun e => ha.2 v hb e.symm)
      · have hu' : u = v' := by
          simp [World.setCell, Array.getElem?_modify, hbb] at hu
          exact hu.symm
        subst hu'
        rcases hob with h | h
        · rw [h]; exact ha.2 v hb
        · rw [h]; simp; omega
  have FIN := Lib.hid fin
  clear fin hc
  go_enter Tryz.func252, Tryz.ntmps252
  go_wp2_with (at_builtin; refine wpList_append_src _ rfl _ _ 41 41 rfl B 5 i0 (.int .u8 0) 1 1 Tryz.underlying41 hi hz0 hz1 hz2 rfl (by decide) v l.length _ rfl hown _ _ _ rfl hsrc ?c1 ?c2 ?c3 ?_)
  case c1 => simp only [maxLen]; omega
  case c2 => omega
  case c3 => omega
  intro v' w1 ho hg _ hob
  obtain ⟨va, vm, vc, rfl⟩ := ownsRow_slice ho
  have hF := FIN.out _ w1 ho hg hob
  have hcell1 : w1.cell? ⟨bb, 0, none⟩ = some v := by simp [World.cell?, (hg.block bb hsz (fun e => hne e.symm)).trans hb]
  have hfr1 : w1.frozen? ⟨bb, 0, none⟩ = false := by simp [World.frozen?, (hg.block bb hsz (fun e => hne e.symm)).trans hb]
  have HF := Lib.hid hF
  clear hF ho hg hown hsrc hcell
  go_wp2
  exact bodyPost_end (v := .tuple #[]) (by simp [results, Tryz.results252, go_sem]) rfl HF.out
/-- One byte of a number. -/
def byteAt (x : Int) (i : Nat) : UInt8 := UInt8.ofNat (x.toNat / 2 ^ (8 * i) % 256)
/-- So many bytes of a number, the highest first. -/
def be (x : Int) : Nat → List UInt8
  | 0 => []
  | i + 1 => byteAt x i :: be x i
theorem be_length (x : Int) : ∀ k, (be x k).length = k
  | 0 => rfl
  | k + 1 => by simp [be, be_length x k]

theorem Wr.size {B bb : Nat} {w : World} {l : List UInt8} (h : Wr B w bb l) : bb < w.heap.size := by
  obtain ⟨_, v, hb, _⟩ := h; exact (Array.getElem?_eq_some_iff.1 hb).1

theorem byteAt_val (x : Int) (i : Nat) (hx : 0 ≤ x) : u8v (byteAt x i) = .int .u8 (x / 2 ^ (8 * i) % 256) := by
  obtain ⟨n, rfl⟩ := Int.eq_ofNat_of_zero_le hx
  have e : (byteAt (n : Int) i).toNat = n / 2 ^ (8 * i) % 256 := by
    simp only [byteAt, Int.toNat_natCast, UInt8.toNat_ofNat', show (2 : Nat) ^ 8 = 256 from rfl]
    omega
  simp only [u8v, e]
  congr 1

theorem Wr.below {B bb : Nat} {w w' : World} {l : List UInt8} (h : Wr B w bb l) (hb : ∀ g, B ≤ g → g < w.heap.size → w'.heap[g]? = w.heap[g]?) : Wr B w' bb l := by
  have hsz := h.size
  obtain ⟨hB, v, h1, h2⟩ := h
  refine ⟨hB, v, (hb bb hB hsz).trans h1, ownsRow_keep h2 (fun g hg => ?_)⟩
  rcases h2.2 with ⟨rfl, _⟩ | ⟨g', cap, cur, rfl, k1, k2, k3⟩
  · cases hg
  · simp only [Value.ownBlock, Option.some.injEq] at hg
    subst hg
    exact hb g' k1 (Array.getElem?_eq_some_iff.1 k2).1
theorem Wr.alloc {B bb : Nat} {w : World} {l : List UInt8} (h : Wr B w bb l) (o : Obj) : Wr B (w.alloc o) bb l :=
  h.below (fun g _ hg => Below.heap_alloc _ _ _ hg)

theorem cells_new (w : World) (xs : List Value) (e : TypeId) : Cells (w.heap.size + 1) (w.alloc (.cells xs.toArray e)) (some ⟨w.heap.size, 0, none⟩) xs := fun j u hj =>
  ⟨w.heap.size, 0, rfl, by omega, by rw [World.cell?_alloc_at _ _ _ _ rfl]; simpa using hj⟩

theorem number_any (B bb : Nat) (l : List UInt8) (x : Int) (k : Nat) (w : World) (hx0 : 0 ≤ x) (hx1 : x ≤ 18446744073709551615) (hk : k ≤ 8) (hw : Wr B w bb l) (hlen : l.length + k ≤ 70368744177664) :
    Calls Tryz.prog 253 #[.pointer (some ⟨bb, 0, none⟩), .int .u64 x, .int .i64 k] w (PutOut B bb (l ++ be x k) w) := by
  have hBB := hw.1
  go_enter Tryz.func253, Tryz.ntmps253
  go_wp2
  go_loopw [6] (fun i wr => ∃ (m : Nat) (l' : List UInt8), i = .int .i64 ((m : Int) - 1) ∧ m ≤ k ∧ Hid (l' ++ be x m = l ++ be x k) ∧ Wr B wr bb l' ∧ Below B w wr ∧ Keeps bb w wr) (fun i _ => (intOf i + 1).toNat)
  case atStart => exact ⟨k, l, rfl, Nat.le_refl _, rfl, hw, Below.refl _ _, Keeps.refl _ _⟩
  case round =>
    obtain ⟨m, l', rfl, hm, HL, hW, hB, hK⟩ := hrel
    by_cases h0 : m = 0
    · subst h0
      have HL' : Hid (l' = l ++ be x k) := by have := HL.out; show l' = l ++ be x k; simpa [be] using this
      clear HL
      go_wp2
      exact bodyPost_end (v := .tuple #[]) (by simp [results, Tryz.results253, go_sem]) rfl ⟨rfl, by rw [← HL'.out]; exact hW, hB, hK⟩
    · obtain ⟨i, rfl⟩ : ∃ i, m = i + 1 := ⟨m - 1, by omega⟩
      have hi : (((i + 1 : Nat) : Int) - 1) = (i : Int) := by omega
      rw [hi]
      have hsz := hW.size
      have hv := Lib.hid (byteAt_val x i hx0)
      have hll : l'.length + (i + 1) = l.length + k := by
        have := congrArg List.length HL.out
        simpa [be_length] using this
      have HLL := Lib.hid hll
      clear hll
      go_wp2_with fail
      refine (put_any B bb l' (some ⟨wr.heap.size, 0, none⟩) 1 1 (wr.heap.size + 1) [byteAt x i] _ (hW.alloc _) ?_ rfl (by have := HLL.out; simp; omega)).mono ?_
      · have := cells_new wr [u8v (byteAt x i)] 5
        rw [hv.out] at this
        simpa [hv.out] using this
      rintro e w' ⟨rfl, hW', hB', hK'⟩
      have hKw : Keeps bb w w' := (hK.trans (Keeps.alloc wr hsz _)).trans hK'
      have hBw : Below B w w' := (hB.alloc (by omega) _).trans hB'
      clear hB hB' hW hK hK'
      go_wp2
      go_roundw
      case rel => exact ⟨i, l' ++ [byteAt x i], by go_num, by omega, by have := HL.out; unfold Hid; rw [← this]; simp [be], hW', hBw, hKw⟩
      case measure => simp [intOf]
end Go.Proofs.YthinpbdbhijbgaaGreatDoor
namespace Go.Proofs.YthinpbdbhijbgaaGreatDoor
open Go.RowKit
set_option maxHeartbeats 400000
set_option maxRecDepth 100000

theorem wrap_u64 (n : Int) : 0 ≤ IntKind.u64.wrap n ∧ IntKind.u64.wrap n ≤ 18446744073709551615 := by
  simp only [IntKind.wrap_u64]; omega

theorem number_at (B bb : Nat) (l : List UInt8) (x : Int) (k : Nat) (ki : Int) (w : World) (hki : ki = k) (hx0 : 0 ≤ x) (hx1 : x ≤ 18446744073709551615) (hk : k ≤ 8) (hw : Wr B w bb l) (hlen : l.length + k ≤ 70368744177664) :
    Calls Tryz.prog 253 #[.pointer (some ⟨bb, 0, none⟩), .int .u64 x, .int .i64 ki] w (PutOut B bb (l ++ be x k) w) := by
  subst hki; exact number_any B bb l x k w hx0 hx1 hk hw hlen

theorem int_any (B bb : Nat) (l : List UInt8) (n : Int) (w : World) (hw : Wr B w bb l) (hlen : l.length + 4 ≤ 70368744177664) :
    Calls Tryz.prog 216 #[.pointer (some ⟨bb, 0, none⟩), .int .i32 n] w (PutOut B bb (l ++ be (n % 4294967296) 4) w) := by
  go_enter Tryz.func216, Tryz.ntmps216
  go_wp2_with fail
  refine (number_at B bb l _ 4 4 w rfl (by omega) (by omega) (by omega) hw (by omega)).mono ?_
  rintro e w' ⟨rfl, h1, h2, k2⟩
  go_wp2
  exact bodyPost_end (v := .tuple #[]) (by simp [results, Tryz.results216, go_sem]) rfl ⟨rfl, h1, h2, k2⟩

theorem long_any (B bb : Nat) (l : List UInt8) (n : Int) (w : World) (hw : Wr B w bb l) (hlen : l.length + 8 ≤ 70368744177664) :
    Calls Tryz.prog 218 #[.pointer (some ⟨bb, 0, none⟩), .int .i64 n] w (PutOut B bb (l ++ be (IntKind.u64.wrap n) 8) w) := by
  go_enter Tryz.func218, Tryz.ntmps218
  have hwr := wrap_u64 n
  go_wp2_with fail
  refine (number_at B bb l _ 8 8 w rfl hwr.1 hwr.2 (by omega) hw (by omega)).mono ?_
  rintro e w' ⟨rfl, h1, h2, k2⟩
  go_wp2
  exact bodyPost_end (v := .tuple #[]) (by simp [results, Tryz.results218, go_sem]) rfl ⟨rfl, h1, h2, k2⟩

theorem bool_any (B bb : Nat) (l : List UInt8) (b : Bool) (w : World) (hw : Wr B w bb l) (hlen : l.length + 1 ≤ 70368744177664) :
    Calls Tryz.prog 219 #[.pointer (some ⟨bb, 0, none⟩), .bool b] w (PutOut B bb (l ++ [if b then 1 else 0]) w) := by
  have hB := hw.1
  have hsz := hw.size
  cases b
  · go_enter Tryz.func219, Tryz.ntmps219
    go_wp2_with fail
    refine (put_any B bb l (some ⟨w.heap.size, 0, none⟩) 1 1 (w.heap.size + 1) [0] _ (hw.alloc _) (cells_new w [u8v 0] 5) rfl (by simp; omega)).mono ?_
    rintro e w' ⟨rfl, h1, h2, k2⟩
    go_wp2
    exact bodyPost_end (v := .tuple #[]) (by simp [results, Tryz.results219, go_sem]) rfl ⟨rfl, h1, ((Below.refl B w).alloc (by omega) _).trans h2, (Keeps.alloc w hsz _).trans k2⟩
  · go_enter Tryz.func219, Tryz.ntmps219
    go_wp2_with fail
    refine (put_any B bb l (some ⟨w.heap.size, 0, none⟩) 1 1 (w.heap.size + 1) [1] _ (hw.alloc _) (cells_new w [u8v 1] 5) rfl (by simp; omega)).mono ?_
    rintro e w' ⟨rfl, h1, h2, k2⟩
    go_wp2
    exact bodyPost_end (v := .tuple #[]) (by simp [results, Tryz.results219, go_sem]) rfl ⟨rfl, h1, ((Below.refl B w).alloc (by omega) _).trans h2, (Keeps.alloc w hsz _).trans k2⟩

theorem count_any (B bb : Nat) (l : List UInt8) (n : Nat) (w : World) (hw : Wr B w bb l) (hn : n < 2147483648) (hlen : l.length + 4 ≤ 70368744177664) :
    Calls Tryz.prog 251 #[.pointer (some ⟨bb, 0, none⟩), .int .i64 n] w (PutOut B bb (l ++ be n 4) w) := by
  go_enter Tryz.func251, Tryz.ntmps251
  go_wp2_with fail
  refine (int_any B bb l _ w hw (by omega)).mono ?_
  rintro e w' ⟨rfl, h1, h2, k2⟩
  go_wp2
  exact bodyPost_end (v := .tuple #[]) (by simp [results, Tryz.results251, go_sem]) rfl ⟨rfl, by rw [show (n : Int) % 4294967296 = n from by omega] at h1; exact h1, h2, k2⟩

/-- A slice's cells, in blocks that the writer leaves alone. -/
def Away (bb : Nat) (w : World) (a : Option Addr) (xs : List Value) : Prop :=
  ∀ j u, xs[j]? = some u → ∃ b off, a = some ⟨b, off, none⟩ ∧ b < w.heap.size ∧ Apart w bb b ∧ w.cell? ⟨b, off + j, none⟩ = some u
theorem Away.cells {bb : Nat} {w : World} {a : Option Addr} {xs : List Value} (h : Away bb w a xs) : Cells w.heap.size w a xs := fun j u hj =>
  let ⟨b, off, h1, h2, _, h4⟩ := h j u hj; ⟨b, off, h1, h2, h4⟩
theorem Away.keeps {bb : Nat} {w w' : World} {a : Option Addr} {xs : List Value} (h : Away bb w a xs) (hk : Keeps bb w w') : Away bb w' a xs := fun j u hj =>
  let ⟨b, off, h1, h2, h3, h4⟩ := h j u hj
  ⟨b, off, h1, Nat.lt_of_lt_of_le h2 hk.1, (hk.2 b h2 h3).2, (World.cell?_of_block (hk.2 b h2 h3).1).trans h4⟩
theorem Apart.low {B bb g : Nat} {w : World} {l : List UInt8} (hw : Wr B w bb l) (h : g < B) : Apart w bb g := by
  obtain ⟨hB, v, h1, h2⟩ := hw
  refine ⟨by omega, fun u hu e => ?_⟩
  rw [h1] at hu
  simp only [Option.some.injEq, Obj.cells.injEq, Array.mk.injEq, List.cons.injEq, and_true] at hu
  subst hu
  rcases h2.2 with ⟨rfl, _⟩ | ⟨g', cap, cur, rfl, k1, k2, k3⟩
  · cases e
  · simp only [Value.ownBlock, Option.some.injEq] at e; omega
theorem Apart.high {B bb : Nat} {w : World} {l : List UInt8} (hw : Wr B w bb l) : ∀ g, w.heap.size ≤ g → Apart w bb g := by
  intro g hg
  have hsz := hw.size
  obtain ⟨hB, v, h1, h2⟩ := hw
  refine ⟨by omega, fun u hu e => ?_⟩
  rw [h1] at hu
  simp only [Option.some.injEq, Obj.cells.injEq, Array.mk.injEq, List.cons.injEq, and_true] at hu
  subst hu
  rcases h2.2 with ⟨rfl, _⟩ | ⟨g', cap, cur, rfl, k1, k2, k3⟩
  · cases e
  · simp only [Value.ownBlock, Option.some.injEq] at e
    have := (Array.getElem?_eq_some_iff.1 k2).1
    omega
theorem Cells.away {B bb : Nat} {w : World} {a : Option Addr} {xs : List Value} {l : List UInt8} (hw : Wr B w bb l) (h : Cells B w a xs) : Away bb w a xs := fun j u hj =>
  let ⟨b, off, h1, h2, h4⟩ := h j u hj
  ⟨b, off, h1, by have := hw.size; have := hw.1; omega, Apart.low hw h2, h4⟩

theorem buffer_any (B bb : Nat) (l : List UInt8) (a : Option Addr) (n c : Nat) (xs : List UInt8) (w : World) (hw : Wr B w bb l) (hc : Away bb w a (xs.map u8v)) (hn : n = xs.length) (hx : xs.length < 2147483648) (hlen : l.length + xs.length + 4 ≤ 70368744177664) :
    Calls Tryz.prog 213 #[.pointer (some ⟨bb, 0, none⟩), .slice a n c] w (PutOut B bb (l ++ be n 4 ++ xs) w) := by
  subst hn
  go_enter Tryz.func213, Tryz.ntmps213
  go_wp2_with fail
  refine (count_any B bb l _ w hw hx (by omega)).mono ?_
  rintro e w1 ⟨rfl, h1, h2, k2⟩
  go_wp2_with fail
  refine (put_any B bb _ a _ c _ xs w1 h1 (hc.keeps k2).cells rfl (by simp [be_length]; omega)).mono ?_
  rintro e w2 ⟨rfl, h3, h4, k4⟩
  go_wp2
  exact bodyPost_end (v := .tuple #[]) (by simp [results, Tryz.results213, go_sem]) rfl ⟨rfl, h3, h2.trans h4, k2.trans k4⟩

/-- A text as bytes: a block of its own. -/
theorem conv_bytes (w : World) (s : ByteArray) : ∃ c w1, (convert 9 41 (.string s)).run Tryz.prog w = .ok (.slice (some ⟨w.heap.size, 0, none⟩) s.size c) w1 ∧
    Cells (w.heap.size + 1) w1 (some ⟨w.heap.size, 0, none⟩) (s.data.toList.map u8v) ∧ Below w.heap.size w w1 ∧ w1.heap.size = w.heap.size + 1 := by
  refine ⟨_, _, run_bytes_of_string w _ _ _ s Tryz.underlying9 Tryz.underlying41 Tryz.underlying5, fun j u hj => ⟨w.heap.size, 0, rfl, by omega, ?_⟩, ((Below.refl _ w).drew).alloc (Nat.le_refl _) _, by simp⟩
  have hh : ∀ o, (w.drew.alloc o).heap[w.heap.size]? = some o := fun o => heap_alloc_new w.drew o
  have hlt := (List.getElem?_eq_some_iff.1 hj).1
  simp at hlt
  simp only [World.cell?, hh, bytesRow]
  simp [hlt] at hj ⊢
  simpa [u8v, Array.getElem?_append, hlt] using hj

theorem text_any (B bb : Nat) (l : List UInt8) (s : ByteArray) (w : World) (hw : Wr B w bb l) (hx : s.size < 2147483648) (hlen : l.length + s.size + 4 ≤ 70368744177664) :
    Calls Tryz.prog 212 #[.pointer (some ⟨bb, 0, none⟩), .string s] w (PutOut B bb (l ++ be s.size 4 ++ s.data.toList) w) := by
  have hB := hw.1
  have hsz := hw.size
  obtain ⟨c, w1, hcv, hc, hb1, hs1⟩ := conv_bytes w s
  have hw1 : Wr B w1 bb l := hw.below (fun g _ hg => hb1.block g hg)
  have hk1 : Keeps bb w w1 := ⟨by omega, fun g hg ha => ⟨hb1.block g hg, ha.1, fun v hv => ha.2 v (by rw [← hb1.block bb hsz]; exact hv)⟩⟩
  have hAway : Away bb w1 (some ⟨w.heap.size, 0, none⟩) (s.data.toList.map u8v) := fun j u hj => by
    obtain ⟨b, off, h1, h2, h3⟩ := hc j u hj
    simp only [Option.some.injEq, Addr.mk.injEq] at h1
    obtain ⟨rfl, rfl, _⟩ := h1
    refine ⟨w.heap.size, 0, rfl, by omega, ⟨by omega, fun v hv => (Apart.high hw w.heap.size (Nat.le_refl _)).2 v (by rw [← hb1.block bb hsz]; exact hv)⟩, h3⟩
  have hB1 : Below B w w1 := hb1.mono (by omega)
  clear hc hb1
  go_enter Tryz.func212, Tryz.ntmps212
  go_wp2_with fail
  refine (buffer_any B bb l _ _ c s.data.toList w1 hw1 hAway (by simp) (by simpa using hx) (by simp; omega)).mono ?_
  rintro e w2 ⟨rfl, h3, h4, k4⟩
  go_wp2
  exact bodyPost_end (v := .tuple #[]) (by simp [results, Tryz.results212, go_sem]) rfl ⟨rfl, by simpa using h3, hB1.trans h4, hk1.trans k4⟩
end Go.Proofs.YthinpbdbhijbgaaGreatDoor
namespace Go.Proofs.YthinpbdbhijbgaaGreatDoor
open Go.RowKit
set_option maxHeartbeats 400000
set_option maxRecDepth 100000

/-- A copy in new memory. -/
def CloneOut (ty size : Nat) (a : Option Addr) (n : Nat) (xs : List Value) (w : World) (e : Ending) (w' : World) : Prop :=
  ∃ v', e = .returned v' ∧ w'.ownsRow w.heap.size ty size v' n xs ∧ Below w.heap.size w w' ∧ (v' = .slice none 0 0 ↔ a = none)

theorem ownsRow_empty (w : World) (e : TypeId) (size : Nat) : (w.alloc (.cells #[] e)).ownsRow w.heap.size e size (.slice (some ⟨w.heap.size, 0, none⟩) 0 0) 0 [] :=
  ⟨by simp, .inr ⟨w.heap.size, 0, #[], rfl, Nat.le_refl _, heap_alloc_new w _, Nat.le_refl _, Nat.zero_le _, by simp, by simp⟩⟩

theorem Cells.none {B : Nat} {w : World} {xs : List Value} (h : Cells B w none xs) : xs = [] := by
  cases xs with
  | nil => rfl
  | cons u l => obtain ⟨_, _, ha, _⟩ := h 0 u rfl; cases ha

theorem sclone_any (a : Option Addr) (n c : Nat) (xs : List UInt8) (w : World) (hc : Cells w.heap.size w a (xs.map u8v)) (hn : n = xs.length) (hb : n * 1 ≤ 140737488355328) :
    Calls Tryz.prog 254 #[.slice a n c] w (CloneOut 5 1 a n (xs.map u8v) w) := by
  subst hn
  cases a with
  | none =>
    have hx := hc.none
    have he := fun w n c => Lib.run_eql_slice_nil (P := Tryz.prog) w 41 5 none n c 0 0 Tryz.underlying41
    have hx' : xs = [] := by cases xs with
      | nil => rfl
      | cons b l => simp [u8v] at hx
    subst hx'
    have fin : CloneOut 5 1 none 0 [] w (.returned (.slice none 0 0)) w := ⟨_, rfl, World.ownsRow_nil _ _ _ _, Below.refl _ _, by simp⟩
    have FIN := Lib.hid fin
    clear fin
    go_enter Tryz.func254, Tryz.ntmps254
    go_wp2
    go_ret
    exact FIN.out
  | some p =>
    have he := fun w n c => Lib.run_eql_slice_nil (P := Tryz.prog) w 41 5 (some p) n c 0 0 Tryz.underlying41
    obtain ⟨i0, hi, hz0, hz1, hz2⟩ := info_parts infoU8
    have hsrc : Src Tryz.prog 1 41 (.slice (some p) xs.length c) xs.length (xs.map u8v) (w.alloc (.cells #[] 5)) := (hc.below ((Below.refl _ w).alloc (Nat.le_refl _) _)).src Tryz.underlying41 _ _ (by simp) (one_u8 xs)
    have hown := ownsRow_empty w 5 1
    go_enter Tryz.func254, Tryz.ntmps254
    go_wp2_with (at_builtin; refine wpList_append_src _ rfl _ _ 41 41 rfl w.heap.size 5 i0 (.int .u8 0) 1 1 Tryz.underlying41 hi hz0 hz1 hz2 rfl (by decide) _ 0 _ rfl hown _ _ _ rfl hsrc ?c1 ?c2 ?c3 ?_)
    case c1 => simp only [maxLen]; omega
    case c2 => omega
    case c3 => simp
    intro v' w1 ho hg hnil _
    have hB : Below w.heap.size w w1 := ((Below.refl _ w).alloc (Nat.le_refl _) _).grown hg (by simp) (fun k hk => by simp only [Value.ownBlock, Option.some.injEq] at hk; omega)
    have fin : CloneOut 5 1 (some p) xs.length (xs.map u8v) w (.returned v') w1 := ⟨_, rfl, ho, hB, ⟨fun h => absurd h hnil, fun h => by cases h⟩⟩
    have FIN := Lib.hid fin
    clear fin hB ho hg hnil hsrc hown
    go_wp2
    go_ret
    exact FIN.out

/-- An entry of a list of permissions. -/
structure Ac where
  perms : Int
  scheme : ByteArray
  id : ByteArray
def acC (x : Ac) : List Value := [.int .i32 x.perms, .string x.scheme, .string x.id]
def acCs (l : List Ac) : List Value := l.flatMap acC
theorem acCs_length (l : List Ac) : (acCs l).length = l.length * 3 := by
  induction l with
  | nil => rfl
  | cons a l ih => simp only [acCs, List.flatMap_cons, List.length_append, List.length_cons] at *; rw [ih]; simp [acC]; omega
theorem one_ac (xs : List Ac) : ∀ u ∈ acCs xs, u.oneCell' = true := fun u hu => by
  obtain ⟨x, _, h⟩ := List.mem_flatMap.1 hu
  simp only [acC, List.mem_cons, List.mem_nil_iff, or_false] at h
  rcases h with rfl | rfl | rfl <;> rfl
theorem infoAc : (Tryz.prog.info? 129).map (fun i => (i.zero, i.size, i.bytes)) = some (some (.agg #[.int .i32 0, .string ⟨#[]⟩, .string ⟨#[]⟩]), 3, 40) := by kernel_rfl

/-- A row of the call's own, as a slice's cells. -/
theorem ownsRow_cells {w : World} {base e size n : Nat} {v : Value} {xs : List Value} (h : w.ownsRow base e size v n xs) : ∃ a c, v = .slice a n c ∧ Cells w.heap.size w a xs := by
  rcases h.2 with ⟨rfl, rfl⟩ | ⟨g, cap, cur, rfl, h1, h2, h3⟩
  · have hx : xs = [] := List.eq_nil_of_length_eq_zero (by simpa using h.1)
    subst hx
    exact ⟨none, 0, rfl, Cells.nil _ _ _⟩
  · refine ⟨_, cap, rfl, fun j u hj => ⟨g, 0, rfl, (Array.getElem?_eq_some_iff.1 h2).1, ?_⟩⟩
    have := h.cells (g := g) rfl j u hj
    rwa [show ((⟨g, 0, none⟩ : Addr).add j) = ⟨g, 0 + j, none⟩ from by unfold Addr.add; split <;> simp_all] at this

theorem bytes_any (B bb : Nat) (l : List UInt8) (w : World) (hw : Wr B w bb l) (hl : l.length ≤ 140737488355328) :
    Calls Tryz.prog 220 #[.pointer (some ⟨bb, 0, none⟩)] w fun e w' => ∃ a c, e = .returned (.slice a l.length c) ∧ Cells w'.heap.size w' a (l.map u8v) ∧ Below w.heap.size w w' := by
  obtain ⟨hB, v, hb, hown⟩ := hw
  have hcell : w.cell? ⟨bb, 0, none⟩ = some v := by simp [World.cell?, hb]
  obtain ⟨va, vc, rfl, hcs⟩ := ownsRow_cells hown
  clear hown hb
  go_enter Tryz.func220, Tryz.ntmps220
  go_wp2_with fail
  refine (sclone_any va _ vc l w hcs rfl (by omega)).mono ?_
  rintro e w' ⟨v', rfl, h1, h2, _⟩
  obtain ⟨a, c, rfl, h4⟩ := ownsRow_cells h1
  clear h1 hcell
  go_wp2
  go_ret
  exact ⟨a, c, rfl, h4, h2⟩
end Go.Proofs.YthinpbdbhijbgaaGreatDoor
namespace Go.Proofs.YthinpbdbhijbgaaGreatDoor
open Go.RowKit
set_option maxHeartbeats 400000
set_option maxRecDepth 100000

/-- What stands ahead of the first slash. -/
def cutB (t : ByteArray) : ByteArray := if 0 ≤ Lib.indexByte t.data.toList 47 then t.extract 0 (Lib.indexByte t.data.toList 47).toNat else t

theorem indexByte_lt (t : ByteArray) (h : 0 ≤ Lib.indexByte t.data.toList 47) : (Lib.indexByte t.data.toList 47).toNat < t.size := by
  obtain ⟨o, ho⟩ := Int.eq_ofNat_of_zero_le h
  obtain ⟨h1, _⟩ := Lib.indexByte_some ho
  have := (List.getElem?_eq_some_iff.1 h1).1
  rw [ho]; simpa using this

theorem cut_any (t : ByteArray) (w : World) (ht : t.size ≤ 9223372036854775806) : Calls Tryz.prog 136 #[.string t, .string ⟨#[47]⟩] w fun e w' =>
    ∃ (b : ByteArray) (f : Bool) (n : Nat), e = .returned (.tuple #[.string (cutB t), .string b, .bool f]) ∧ w' = w.drewN n := by
  have hge := Lib.indexByte_ge t.data.toList 47
  have HC := Tryz.stringslite_Index_one t 47 w
  by_cases h : 0 ≤ Lib.indexByte t.data.toList 47
  · have hl := indexByte_lt t h
    have e1 : cutB t = t.extract 0 (Lib.indexByte t.data.toList 47).toNat := by unfold cutB; rw [if_pos h]
    have E1 := Lib.hid e1
    clear e1
    generalize Lib.indexByte t.data.toList 47 = i at *
    obtain ⟨i, rfl⟩ := Int.eq_ofNat_of_zero_le h
    simp only [Int.toNat_natCast] at *
    have hl2 : (i : Int) + 1 ≤ t.size := by omega
    go_enter Tryz.func136, Tryz.ntmps136
    go_wp2_with fail
    refine HC.mono ?_
    rintro e w' ⟨rfl, rfl⟩
    clear HC
    go_wp2
    go_quiet (fail)
    go_wp2
    go_ret3
    exact ⟨_, _, _, by rw [E1.out]; rfl, rfl⟩
  · have e1 : cutB t = t := by unfold cutB; rw [if_neg h]
    have E1 := Lib.hid e1
    clear e1
    generalize Lib.indexByte t.data.toList 47 = i at *
    obtain rfl : i = -1 := by omega
    go_enter Tryz.func136, Tryz.ntmps136
    go_wp2_with fail
    refine HC.mono ?_
    rintro e w' ⟨rfl, rfl⟩
    clear HC
    go_wp2
    go_ret3
    exact ⟨_, _, 0, by rw [E1.out]; rfl, rfl⟩
theorem Cut_any (t : ByteArray) (w : World) (ht : t.size ≤ 9223372036854775806) : Calls Tryz.prog 64 #[.string t, .string ⟨#[47]⟩] w fun e w' =>
    ∃ (b : ByteArray) (f : Bool) (n : Nat), e = .returned (.tuple #[.string (cutB t), .string b, .bool f]) ∧ w' = w.drewN n := by
  go_enter Tryz.func64, Tryz.ntmps64
  go_wp2_with fail
  refine (cut_any t w ht).mono ?_
  rintro e w' ⟨b, f, n, rfl, rfl⟩
  go_wp2
  go_ret3
  exact ⟨b, f, n, rfl, rfl⟩

theorem takeWhile_index : ∀ (l : List UInt8), l.takeWhile (· != 47) = if 0 ≤ Lib.indexByte l 47 then l.take (Lib.indexByte l 47).toNat else l
  | [] => by simp [Lib.indexByte]
  | b :: l => by
    have hge := Lib.indexByte_ge l 47
    have ih := takeWhile_index l
    simp only [Lib.indexByte]
    by_cases hb : b = 47
    · subst hb; simp
    · have h1 : (b == 47) = false := by simp [hb]
      have h2 : (b != 47) = true := by simp [hb]
      rw [List.takeWhile_cons_of_pos (by simpa using hb), ih]
      simp only [h1]
      by_cases hi : Lib.indexByte l 47 = -1
      · simp [hi]
      · have h3 : (Lib.indexByte l 47 == -1) = false := by simp [hi]
        simp only [h3]
        rw [if_pos (by omega)]
        have : (Lib.indexByte l 47 + 1).toNat = (Lib.indexByte l 47).toNat + 1 := by omega
        simp [this]
        omega

theorem cutB_list (s : ByteArray) (p : Nat) (hp : p ≤ s.size) : (cutB (s.extract p s.size)).toList = partL s p := by
  have e : (s.extract p s.size).data.toList = s.data.toList.drop p := by
    rw [Lib.extract_to_end]
  unfold partL cutB
  rw [takeWhile_index, ← e]
  split
  · rw [ByteArray.toList_eq, Lib.extract_data]; simp
  · rw [ByteArray.toList_eq]

theorem below_iter {B : Nat} {a w : World} (h : Below B a w) (hB : B ≤ w.heap.size) (s : ByteArray) (p : Nat) : Below B a (w.iter s p) := h.alloc hB _
theorem below_drewN {B : Nat} {a w : World} (h : Below B a w) (n : Nat) : Below B a (w.drewN n) := ⟨h.os, h.tape, h.output, h.size, h.block⟩

theorem iter_drewN (w : World) (s : ByteArray) (p n m : Nat) : (((w.drewN n).iter s p).drewN m) = (w.drewN (n + m)).iter s p := by
  simp [World.drewN, World.iter, World.alloc, Nat.add_assoc]

theorem iterPos_d (w : World) (s : ByteArray) (p n : Nat) : ((w.drewN n).iter s p).iterPos w.heap.size = p := World.iterPos_iter (w.drewN n) s p

theorem sep_ok (s : ByteArray) (p : Nat) (h : bat s p ≠ 47) : sep s p = true := by simp [sep, h]
theorem sep_slash (s : ByteArray) (p : Nat) (h : bat s p = 47) : sep s p = (!(0 < p && bat s (p - 1) == 47) && !dots s (p + 1)) := by simp [sep, h]

theorem dec_one (s : ByteArray) (p : Nat) (h : bat s p = 47) (d : bat s p < 128 → Utf8.decode s p = (bat s p, 1)) : Utf8.decode s p = (47, 1) := by
  rw [d (by omega), h]

/-- What is so behind a character that is no slash, or one. -/
theorem next_last (s : ByteArray) (p : Nat) (d : Dec s p) (hpl : pl (Utf8.decode s p).1 = true) : (bat s (p + (Utf8.decode s p).2 - 1) = 47 ↔ bat s p = 47) ∧ ((Utf8.decode s p).1 = 47 ↔ bat s p = 47) := by
  have h1 := d.pos
  by_cases h : (Utf8.decode s p).2 = 1
  · have h3 : (Utf8.decode s p).1 ≠ 65533 := by intro e; rw [e] at hpl; revert hpl; decide
    have := d.one h h3
    rw [h, Nat.add_sub_cancel]
    exact ⟨Iff.rfl, by rw [this.1]⟩
  · have h3 := d.more h
    have h4 := d.tail ((Utf8.decode s p).2 - 1) (by omega) (by omega)
    rw [show p + (Utf8.decode s p).2 - 1 = p + ((Utf8.decode s p).2 - 1) from by omega]
    exact ⟨⟨by omega, by omega⟩, ⟨by omega, by omega⟩⟩

theorem vpath_big (s : ByteArray) (h : 4096 < s.size) : vpath s = false := by simp [vpath]; omega
theorem vpath_start (s : ByteArray) (h : bat s 0 ≠ 47) : vpath s = false := by simp [vpath, h]
theorem vpath_empty (s : ByteArray) (h : s.size = 0) : vpath s = false := by simp [vpath, h]
theorem vpath_root (s : ByteArray) (h : s.size = 1) (h0 : bat s 0 = 47) : vpath s = true := by simp [vpath, h, h0]
theorem vpath_end (s : ByteArray) (h : s.size ≠ 1) (h0 : bat s (s.size - 1) = 47) : vpath s = false := by simp [vpath, h, h0]
theorem vpath_scan (s : ByteArray) (h : s.size ≠ 1) (h0 : s.size ≠ 0) (h1 : s.size ≤ 4096) (h2 : bat s 0 = 47) (h3 : bat s (s.size - 1) ≠ 47) : vpath s = scanAt s 0 := by
  have a1 : (s.size != 0) = true := bne_iff_ne.2 h0
  have a2 : (bat s (s.size - 1) != 47) = true := bne_iff_ne.2 h3
  have a3 : (s.size == 1) = false := beq_eq_false_iff_ne.2 h
  have a4 : decide (s.size ≤ 4096) = true := by simpa using h1
  have a5 : (bat s 0 == 47) = true := beq_iff_eq.2 h2
  simp only [vpath, a1, a2, a3, a4, a5, scanAt, Bool.true_and, Bool.false_or]

theorem size_toList (s : ByteArray) : s.toList.length = s.size := by rw [ByteArray.toList_eq]; simp
theorem isEmpty_size (s : ByteArray) : s.toList.isEmpty = (s.size == 0) := by
  rw [← size_toList]; cases s.toList <;> simp
theorem root_size (s : ByteArray) (h0 : 0 < s.size) (h : bat s 0 = 47) : (s.toList == [47]) = (s.size == 1) := by
  have e : s.data.toList[0]'(by simpa using h0) = 47 := by
    have := bat_get s 0 h0
    rw [h] at this
    exact UInt8.toNat_inj.1 (this.symm.trans rfl)
  have h0' : 0 < s.data.toList.length := by simpa using h0
  rw [ByteArray.toList_eq, ← size_toList, ByteArray.toList_eq]
  cases hl : s.data.toList with
  | nil => rw [hl] at h0'; simp at h0'
  | cons a l =>
    simp only [hl, List.getElem_cons_zero] at e
    subst e
    cases l <;> simp

set_option maxHeartbeats 1000000 in
theorem check_any (s : ByteArray) (w : World) (hs : s.size ≤ 9223372036854775806) : Calls Tryz.prog 175 #[.string s] w fun e w' =>
    ∃ f a : Int, e = .returned (.tuple #[.int .i64 f, .int .i64 a]) ∧ Hid (f = 0 ↔ vpath s = true) ∧ Below w.heap.size w w' := by
  have he := isEmpty_size s
  by_cases h0 : s.size = 0
  · have hv := Lib.hid (vpath_empty s h0)
    have he' : s.toList.isEmpty = true := by rw [he]; simp [h0]
    clear he h0
    go_enter Tryz.func175, Tryz.ntmps175
    go_wp2; go_step3; go_wp2
    rw [Exit.noGoto_ret]; go_ret2
    exact ⟨1, 0, rfl, by unfold Hid; rw [hv.out]; simp, Below.refl _ _⟩
  have he' : s.toList.isEmpty = false := by rw [he]; simp [h0]
  have hp : 0 < s.size := by omega
  clear he
  by_cases h1 : 4096 < s.size
  · have hv := Lib.hid (vpath_big s h1)
    go_enter Tryz.func175, Tryz.ntmps175
    go_wp2; go_step3; go_wp2
    rw [Exit.noGoto_ret]; go_ret2
    exact ⟨2, 4096, rfl, by unfold Hid; rw [hv.out]; simp, Below.refl _ _⟩
  by_cases h2 : bat s 0 ≠ 47
  · have hv := Lib.hid (vpath_start s h2)
    have h2' : ((s[0].toNat : Int) != 47) = true := by rw [← bat_get s 0 hp]; simp; omega
    go_enter Tryz.func175, Tryz.ntmps175
    go_wp2; go_step3; go_wp2
    rw [Exit.noGoto_ret]; go_ret2
    exact ⟨3, 0, rfl, by unfold Hid; rw [hv.out]; simp, Below.refl _ _⟩
  have h2 : bat s 0 = 47 := by omega
  have h2' : ((s[0].toNat : Int) != 47) = false := by rw [← bat_get s 0 hp]; simp; omega
  have hr := root_size s hp h2
  by_cases h3 : s.size = 1
  · have hv := Lib.hid (vpath_root s h3 h2)
    have hr' : (s.toList == [47]) = true := by rw [hr]; simp [h3]
    clear hr h3 h2
    go_enter Tryz.func175, Tryz.ntmps175
    go_wp2; go_step3; go_wp2
    rw [Exit.noGoto_ret]; go_ret2
    exact ⟨0, -1, rfl, by unfold Hid; rw [hv.out]; simp, Below.refl _ _⟩
  have hr' : (s.toList == [47]) = false := by rw [hr]; simp [h3]
  clear hr
  have hb1 : 1 ≤ (s.size : Int) ∧ (s.size : Int) - 1 < s.size := by omega
  by_cases h4 : bat s (s.size - 1) = 47
  · have hv := Lib.hid (vpath_end s h3 h4)
    have h4' : ((s[s.size - 1].toNat : Int) == 47) = true := by rw [← bat_get s (s.size - 1) (by omega)]; simp; omega
    clear h4 h2
    go_enter Tryz.func175, Tryz.ntmps175
    go_wp2; go_step3; go_wp2
    rw [Exit.noGoto_ret]; go_ret2
    exact ⟨4, _, rfl, by unfold Hid; rw [hv.out]; simp, Below.refl _ _⟩
  have h4' : ((s[s.size - 1].toNat : Int) == 47) = false := by rw [← bat_get s (s.size - 1) (by omega)]; simp; omega
  have hv := Lib.hid (vpath_scan s h3 h0 (by omega) h2 h4)
  clear h4 h2
  go_enter Tryz.func175, Tryz.ntmps175
  go_wp2; go_step3
  go_wp2_with (go_at_call 221; refine (first_any _ _).mono ?_; rintro e w' ⟨k, pos, rfl, rfl⟩)
  have hB : Below w.heap.size w (w.iter s pos) := below_iter (Below.refl _ _) (Nat.le_refl _) s pos
  have hfb := fbAt_ge s 0
  generalize w.iter s pos = w1 at hB ⊢
  clear hr' he'
  go_step3
  go_wp2
  go_loopw [6] (fun b wr => ∃ pos b' n : Nat, wr = (w1.drewN n).iter s pos ∧ b = .int .i64 b' ∧ pos ≤ s.size ∧ b' ≤ pos ∧ Hid (0 < pos → (b' = pos ↔ bat s (pos - 1) = 47)) ∧ Hid (scanAt s 0 = scanAt s pos) ∧ Hid (fbAt s 0 = fbAt s pos)) (fun _ wr => s.size - wr.iterPos w1.heap.size)
  case atStart => exact ⟨0, 0, 0, rfl, rfl, Nat.zero_le _, Nat.zero_le _, by unfold Hid; omega, rfl, rfl⟩
  case round =>
    obtain ⟨pos, b, n, rfl, rfl, hpos, hb, Hb, Hs, Hf⟩ := hrel
    by_cases hlt : pos < s.size
    · have hfs := fbAt_step s pos hlt
      have hss := scanAt_step s pos hlt
      have d := dec s pos hlt
      have hd1 := d.pos
      have hd2 := d.fits
      have d0 := d.ascii
      have hn := run_next_any (P := Tryz.prog) (w1.drewN n) s pos
      rw [show (w1.drewN n).heap.size = w1.heap.size from rfl] at hn
      by_cases hpl : pl (Utf8.decode s pos).1 = true
      · rw [if_pos hpl] at hfs
        have hnl := next_last s pos d hpl
        have hge := fbAt_ge s (pos + (Utf8.decode s pos).2)
        have hne : ((pos : Int) == fbAt s 0) = false := by rw [Hf.out, hfs]; simp; omega
        clear d
        by_cases h47 : bat s pos = 47
        · have hda := dec_one s pos h47 d0
          have hr : (((Utf8.decode s pos).1 : Int) != 47) = false := by rw [hda]; rfl
          have ht : (s.extract (pos + 1) s.size).size ≤ 9223372036854775806 := by rw [ByteArray.size_extract]; omega
          have hcl := cutB_list s (pos + 1) (by omega)
          rw [sep_slash s pos h47] at hss
          rw [hda] at hd2
          simp only [] at hd2
          by_cases hv2 : 0 < pos ∧ bat s (pos - 1) = 47
          · have hbp : b = pos := (Hb.out hv2.1).2 hv2.2
            subst hbp
            have hg0 : decide ((0 : Int) < (b : Int)) = true := by simp; omega
            have H1 : Hid (scanAt s 0 = false) := by
              unfold Hid; rw [Hs.out, hss]; simp [hv2]
            clear hss hfs Hs Hf hpl hcl hnl hda
            go_wp2
            (try rw [Exit.noGoto_ret]); go_ret2
            exact ⟨5, _, rfl, by unfold Hid; rw [hv.out, H1.out]; simp, below_iter (below_drewN hB n) (by exact hB.size) s _⟩
          · have hbz : ¬ (0 < pos) ∨ (0 < pos ∧ ((b : Int) == (pos : Int)) = false) := by
              by_cases hz : 0 < pos
              · have : b ≠ pos := fun e => hv2 ⟨hz, (Hb.out hz).1 e⟩
                right; refine ⟨hz, ?_⟩; simp; omega
              · exact .inl hz
            have hex : Exists fun b : Bool => dots s (pos + 1) = b := ⟨_, rfl⟩
            obtain ⟨dt, hdt⟩ := hex
            have hss2 : scanAt s pos = (!dt && scanAt s (pos + 1)) := by
              rw [hss, hdt, hda]
              have : (decide (0 < pos) && bat s (pos - 1) == 47) = false := by
                rw [Bool.and_eq_false_iff]
                by_cases hz : 0 < pos
                · right; simp; exact fun e => hv2 ⟨hz, e⟩
                · left; simpa using hz
              rw [this, show pl (47, 1).1 = true from rfl]; simp
            rw [hda] at hfs
            have H1 := Lib.hid (Hs.out.trans hss2)
            have H2 := Lib.hid (Hf.out.trans hfs)
            unfold dots at hdt
            rw [← hcl] at hdt
            clear hss hss2 hfs Hs Hf hpl hcl hnl hda hge hv2 Hb
            cases dt
            · simp only [Bool.or_eq_false_iff] at hdt
              obtain ⟨e1, e2⟩ := hdt
              have e3 : ¬ (cutB (s.extract (pos + 1) s.size)).toList = [46] := by simpa using e1
              rcases hbz with hbz | ⟨hz, hbz⟩
              all_goals
                go_wp2_with (go_at_call 64; refine (Cut_any _ _ ht).mono ?_; rintro e w' ⟨cb, cf, m, rfl, rfl⟩)
                go_roundw
                case rel => exact ⟨pos + 1, pos + 1, n + m, iter_drewN _ _ _ _ _, by go_num, by omega, by omega, by unfold Hid; simp; omega, by have := H1.out; simpa [Hid] using this, H2⟩
                case measure => rw [iter_drewN, iterPos_d, iterPos_d]; omega
            · have H3 : Hid (scanAt s 0 = false) := by unfold Hid; rw [H1.out]; rfl
              clear H1 H2
              have hd : (cutB (s.extract (pos + 1) s.size)).toList = [46] ∨ (¬ (cutB (s.extract (pos + 1) s.size)).toList = [46] ∧ ((cutB (s.extract (pos + 1) s.size)).toList == [46]) = false ∧ ((cutB (s.extract (pos + 1) s.size)).toList == [46, 46]) = true) := by
                by_cases e : (cutB (s.extract (pos + 1) s.size)).toList = [46]
                · exact .inl e
                · right; simp [e] at hdt; simp [e, hdt]
              clear hdt
              rcases hbz with hbz | ⟨hz, hbz⟩ <;> rcases hd with hd | ⟨hd, hd1, hd2⟩
              all_goals
                go_wp2_with (go_at_call 64; refine (Cut_any _ _ ht).mono ?_; rintro e w' ⟨cb, cf, m, rfl, rfl⟩)
                (try rw [Exit.noGoto_ret]); go_ret2
                exact ⟨6, _, rfl, by unfold Hid; rw [hv.out, H3.out]; simp, below_drewN (below_iter (below_drewN hB n) (by exact hB.size) s _) _⟩
        · have hr : (((Utf8.decode s pos).1 : Int) != 47) = true := by simp; omega
          have H1 := Lib.hid (Hs.out.trans hss)
          have H2 := Lib.hid (Hf.out.trans hfs)
          rw [hpl, sep_ok s pos h47, Bool.true_and, Bool.true_and] at H1
          have H3 := Lib.hid hnl.1
          clear hnl hss hfs Hs Hf hpl
          go_wp2
          go_roundw
          case rel => exact ⟨_, b, n, rfl, rfl, hd2, by omega, by have := H3.out; unfold Hid; omega, H1, H2⟩
          case measure => rw [iterPos_d, iterPos_d]; omega
      · rw [if_neg hpl] at hfs
        have hne : ((pos : Int) == fbAt s 0) = true := by rw [Hf.out, hfs]; simp
        have H1 : Hid (scanAt s 0 = false) := by
          unfold Hid; rw [Hs.out, hss]; simp [hpl]
        clear hss hfs Hs Hf hpl d
        go_wp2
        (try rw [Exit.noGoto_ret]); go_ret2
        exact ⟨7, _, rfl, by unfold Hid; rw [hv.out, H1.out]; simp, below_iter (below_drewN hB n) (by exact hB.size) s _⟩
    · have H1 : Hid (scanAt s 0 = true) := by unfold Hid; rw [Hs.out]; exact scanAt_end s pos (by omega)
      have hn := run_next_end (P := Tryz.prog) (w1.drewN n) s pos
      rw [show (w1.drewN n).heap.size = w1.heap.size from rfl] at hn
      clear Hs Hf
      go_wp2
      (try rw [Exit.noGoto_ret]); go_ret2
      exact ⟨0, -1, rfl, by unfold Hid; rw [hv.out, H1.out]; simp, below_iter (below_drewN hB n) (by exact hB.size) s _⟩

theorem valid_any (s : ByteArray) (w : World) (hs : s.size ≤ 9223372036854775806) : Calls Tryz.prog 131 #[.string s] w fun e w' =>
    e = .returned (.bool (vpath s)) ∧ Below w.heap.size w w' := by
  by_cases hv : vpath s = true
  · go_enter Tryz.func131, Tryz.ntmps131
    go_wp2_with fail
    refine (check_any s w hs).mono ?_
    rintro e w' ⟨f, a, rfl, hf, hB⟩
    obtain rfl : f = 0 := hf.out.2 hv
    go_wp2
    go_ret
    exact ⟨by rw [hv]; rfl, hB⟩
  · go_enter Tryz.func131, Tryz.ntmps131
    go_wp2_with fail
    refine (check_any s w hs).mono ?_
    rintro e w' ⟨f, a, rfl, hf, hB⟩
    have hf0 : (f == 0) = false := by simp; intro h; exact hv (hf.out.1 h)
    have hv' : vpath s = false := by simpa using hv
    clear hf hv
    go_wp2
    go_ret
    exact ⟨by rw [hv']; rfl, hB⟩
end Go.Proofs.YthinpbdbhijbgaaGreatDoor
namespace Go.Proofs.YthinpbdbhijbgaaGreatDoor
open Go.RowKit

end Go.Proofs.YthinpbdbhijbgaaGreatDoor
namespace Go.Proofs.YthinpbdbhijbgaaGreatDoor
open Go.RowKit

end Go.Proofs.YthinpbdbhijbgaaGreatDoor
