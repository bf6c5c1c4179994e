/- The walks of the three clones of slices. -/
import Derived.Test.YtfgjbcejpjcpeaaDoorWr2
namespace Go.Proofs.YtfgjbcejpjcpeaaDoor
open Go.RowKit
set_option maxHeartbeats 400000
set_option maxRecDepth 100000

/-- A copy in new memory. -/
def CloneOut (ty size : Nat) (a : Option Addr) (n : Nat) (xs : List Value) (w : World) (e : Ending) (w' : World) : Prop :=
  ∃ v', e = .returned v' ∧ w'.ownsRow w.heap.size ty size v' n xs ∧ Below w.heap.size w w' ∧ (v' = .slice none 0 0 ↔ a = none)

theorem ownsRow_empty (w : World) (e : TypeId) (size : Nat) : (w.alloc (.cells #[] e)).ownsRow w.heap.size e size (.slice (some ⟨w.heap.size, 0, none⟩) 0 0) 0 [] :=
  ⟨by simp, .inr ⟨w.heap.size, 0, #[], rfl, Nat.le_refl _, heap_alloc_new w _, Nat.le_refl _, Nat.zero_le _, by simp, by simp⟩⟩

theorem Cells.none {B : Nat} {w : World} {xs : List Value} (h : Cells B w none xs) : xs = [] := by
  cases xs with
  | nil => rfl
  | cons u l => obtain ⟨_, _, ha, _⟩ := h 0 u rfl; cases ha

theorem sclone_any (a : Option Addr) (n c : Nat) (xs : List UInt8) (w : World) (hc : Cells w.heap.size w a (xs.map u8v)) (hn : n = xs.length) (hb : n * 1 ≤ 140737488355328) :
    Calls Tryd.prog 102 #[.slice a n c] w (CloneOut 5 1 a n (xs.map u8v) w) := by
  subst hn
  cases a with
  | none =>
    have hx := hc.none
    have he := fun w n c => Lib.run_eql_slice_nil (P := Tryd.prog) w 32 5 none n c 0 0 Tryd.underlying32
    have hx' : xs = [] := by cases xs with
      | nil => rfl
      | cons b l => simp [u8v] at hx
    subst hx'
    have fin : CloneOut 5 1 none 0 [] w (.returned (.slice none 0 0)) w := ⟨_, rfl, World.ownsRow_nil _ _ _ _, Below.refl _ _, by simp⟩
    have FIN := Lib.hid fin
    clear fin
    go_enter Tryd.func102, Tryd.ntmps102
    go_wp2
    go_ret
    exact FIN.out
  | some p =>
    have he := fun w n c => Lib.run_eql_slice_nil (P := Tryd.prog) w 32 5 (some p) n c 0 0 Tryd.underlying32
    obtain ⟨i0, hi, hz0, hz1, hz2⟩ := info_parts infoU8
    have hsrc : Src Tryd.prog 1 32 (.slice (some p) xs.length c) xs.length (xs.map u8v) (w.alloc (.cells #[] 5)) := (hc.below ((Below.refl _ w).alloc (Nat.le_refl _) _)).src Tryd.underlying32 _ _ (by simp) (one_u8 xs)
    have hown := ownsRow_empty w 5 1
    go_enter Tryd.func102, Tryd.ntmps102
    go_wp2_with (at_builtin; refine wpList_append_src _ rfl _ _ 32 32 rfl w.heap.size 5 i0 (.int .u8 0) 1 1 Tryd.underlying32 hi hz0 hz1 hz2 rfl (by decide) _ 0 _ rfl hown _ _ _ rfl hsrc ?c1 ?c2 ?c3 ?_)
    case c1 => simp only [maxLen]; omega
    case c2 => omega
    case c3 => simp
    intro v' w1 ho hg hnil _
    have hB : Below w.heap.size w w1 := ((Below.refl _ w).alloc (Nat.le_refl _) _).grown hg (by simp) (fun k hk => by simp only [Value.ownBlock, Option.some.injEq] at hk; omega)
    have fin : CloneOut 5 1 (some p) xs.length (xs.map u8v) w (.returned v') w1 := ⟨_, rfl, ho, hB, ⟨fun h => absurd h hnil, fun h => by cases h⟩⟩
    have FIN := Lib.hid fin
    clear fin hB ho hg hnil hsrc hown
    go_wp2
    go_ret
    exact FIN.out

/-- An entry of a list of permissions. -/
structure Ac where
  perms : Int
  scheme : ByteArray
  id : ByteArray
def acC (x : Ac) : List Value := [.int .i32 x.perms, .string x.scheme, .string x.id]
def acCs (l : List Ac) : List Value := l.flatMap acC
theorem acCs_length (l : List Ac) : (acCs l).length = l.length * 3 := by
  induction l with
  | nil => rfl
  | cons a l ih => simp only [acCs, List.flatMap_cons, List.length_append, List.length_cons] at *; rw [ih]; simp [acC]; omega
theorem one_ac (xs : List Ac) : ∀ u ∈ acCs xs, u.oneCell' = true := fun u hu => by
  obtain ⟨x, _, h⟩ := List.mem_flatMap.1 hu
  simp only [acC, List.mem_cons, List.mem_nil_iff, or_false] at h
  rcases h with rfl | rfl | rfl <;> rfl
theorem infoAc : (Tryd.prog.info? 101).map (fun i => (i.zero, i.size, i.bytes)) = some (some (.agg #[.int .i32 0, .string ⟨#[]⟩, .string ⟨#[]⟩]), 3, 40) := by kernel_rfl

/-- A row of the call's own, as a slice's cells. -/
theorem ownsRow_cells {w : World} {base e size n : Nat} {v : Value} {xs : List Value} (h : w.ownsRow base e size v n xs) : ∃ a c, v = .slice a n c ∧ Cells w.heap.size w a xs := by
  rcases h.2 with ⟨rfl, rfl⟩ | ⟨g, cap, cur, rfl, h1, h2, h3⟩
  · have hx : xs = [] := List.eq_nil_of_length_eq_zero (by simpa using h.1)
    subst hx
    exact ⟨none, 0, rfl, Cells.nil _ _ _⟩
  · refine ⟨_, cap, rfl, fun j u hj => ⟨g, 0, rfl, (Array.getElem?_eq_some_iff.1 h2).1, ?_⟩⟩
    have := h.cells (g := g) rfl j u hj
    rwa [show ((⟨g, 0, none⟩ : Addr).add j) = ⟨g, 0 + j, none⟩ from by unfold Addr.add; split <;> simp_all] at this

theorem bytes_any (B bb : Nat) (l : List UInt8) (w : World) (hw : Wr B w bb l) (hl : l.length ≤ 140737488355328) :
    Calls Tryd.prog 91 #[.pointer (some ⟨bb, 0, none⟩)] w fun e w' => ∃ a c, e = .returned (.slice a l.length c) ∧ Cells w'.heap.size w' a (l.map u8v) ∧ Below w.heap.size w w' := by
  obtain ⟨hB, v, hb, hown⟩ := hw
  have hcell : w.cell? ⟨bb, 0, none⟩ = some v := by simp [World.cell?, hb]
  obtain ⟨va, vc, rfl, hcs⟩ := ownsRow_cells hown
  clear hown hb
  go_enter Tryd.func91, Tryd.ntmps91
  go_wp2_with fail
  refine (sclone_any va _ vc l w hcs rfl (by omega)).mono ?_
  rintro e w' ⟨v', rfl, h1, h2, _⟩
  obtain ⟨a, c, rfl, h4⟩ := ownsRow_cells h1
  clear h1 hcell
  go_wp2
  go_ret
  exact ⟨a, c, rfl, h4, h2⟩
end Go.Proofs.YtfgjbcejpjcpeaaDoor
