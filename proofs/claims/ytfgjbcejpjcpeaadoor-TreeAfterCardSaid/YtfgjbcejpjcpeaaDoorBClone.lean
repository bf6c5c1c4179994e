/- The walks of the copies of a node's two slices. -/
import Derived.Test.YtfgjbcejpjcpeaaDoorClone
namespace Go.Proofs.YtfgjbcejpjcpeaaDoor
open Go.RowKit
set_option maxHeartbeats 400000
set_option maxRecDepth 100000

theorem bclone_any (a : Option Addr) (n c : Nat) (xs : List UInt8) (w : World) (hc : Cells w.heap.size w a (xs.map u8v)) (hn : n = xs.length) (hb : n * 1 ≤ 140737488355328) :
    Calls Tryd.prog 68 #[.slice a n c] w (CloneOut 5 1 a n (xs.map u8v) w) := by
  subst hn
  cases a with
  | none =>
    have hx := hc.none
    have he := fun w n c => Lib.run_eql_slice_nil (P := Tryd.prog) w 32 5 none n c 0 0 Tryd.underlying32
    have hx' : xs = [] := by cases xs with
      | nil => rfl
      | cons b l => simp [u8v] at hx
    subst hx'
    have fin : CloneOut 5 1 none 0 [] w (.returned (.slice none 0 0)) w := ⟨_, rfl, World.ownsRow_nil _ _ _ _, Below.refl _ _, by simp⟩
    have FIN := Lib.hid fin
    clear fin
    go_enter Tryd.func68, Tryd.ntmps68
    go_wp2
    go_ret
    exact FIN.out
  | some p =>
    have he := fun w n c => Lib.run_eql_slice_nil (P := Tryd.prog) w 32 5 (some p) n c 0 0 Tryd.underlying32
    obtain ⟨i0, hi, hz0, hz1, hz2⟩ := info_parts infoU8
    have hsrc : Src Tryd.prog 1 32 (.slice (some p) xs.length c) xs.length (xs.map u8v) (w.alloc (.cells #[] 5)) := (hc.below ((Below.refl _ w).alloc (Nat.le_refl _) _)).src Tryd.underlying32 _ _ (by simp) (one_u8 xs)
    have hown := ownsRow_empty w 5 1
    go_enter Tryd.func68, Tryd.ntmps68
    go_wp2_with (at_builtin; refine wpList_append_src _ rfl _ _ 32 32 rfl w.heap.size 5 i0 (.int .u8 0) 1 1 Tryd.underlying32 hi hz0 hz1 hz2 rfl (by decide) _ 0 _ rfl hown _ _ _ rfl hsrc ?c1 ?c2 ?c3 ?_)
    case c1 => simp only [maxLen]; omega
    case c2 => omega
    case c3 => simp
    intro v' w1 ho hg hnil _
    have hB : Below w.heap.size w w1 := ((Below.refl _ w).alloc (Nat.le_refl _) _).grown hg (by simp) (fun k hk => by simp only [Value.ownBlock, Option.some.injEq] at hk; omega)
    have fin : CloneOut 5 1 (some p) xs.length (xs.map u8v) w (.returned v') w1 := ⟨_, rfl, ho, hB, ⟨fun h => absurd h hnil, fun h => by cases h⟩⟩
    have FIN := Lib.hid fin
    clear fin hB ho hg hnil hsrc hown
    go_wp2
    go_ret
    exact FIN.out

theorem aclone_any (a : Option Addr) (n c : Nat) (xs : List Ac) (w : World) (hc : Cells w.heap.size w a (acCs xs)) (hn : n = xs.length) (hb : n * 40 ≤ 140737488355328) :
    Calls Tryd.prog 69 #[.slice a n c] w (CloneOut 101 3 a n (acCs xs) w) := by
  subst hn
  cases a with
  | none =>
    have hx := hc.none
    have he := fun w n c => Lib.run_eql_slice_nil (P := Tryd.prog) w 33 101 none n c 0 0 Tryd.underlying33
    have hx' : xs = [] := by cases xs with
      | nil => rfl
      | cons b l => simp [acCs, acC] at hx
    subst hx'
    have fin : CloneOut 101 3 none 0 [] w (.returned (.slice none 0 0)) w := ⟨_, rfl, World.ownsRow_nil _ _ _ _, Below.refl _ _, by simp⟩
    have FIN := Lib.hid fin
    clear fin
    go_enter Tryd.func69, Tryd.ntmps69
    go_wp2
    go_ret
    exact FIN.out
  | some p =>
    have he := fun w n c => Lib.run_eql_slice_nil (P := Tryd.prog) w 33 101 (some p) n c 0 0 Tryd.underlying33
    obtain ⟨i0, hi, hz0, hz1, hz2⟩ := info_parts infoAc
    have hsrc : Src Tryd.prog 3 33 (.slice (some p) xs.length c) xs.length (acCs xs) (w.alloc (.cells #[] 101)) := (hc.below ((Below.refl _ w).alloc (Nat.le_refl _) _)).src Tryd.underlying33 _ _ (by simp [acCs_length]) (one_ac xs)
    have hown := ownsRow_empty w 101 3
    go_enter Tryd.func69, Tryd.ntmps69
    go_wp2_with (at_builtin; refine wpList_append_src _ rfl _ _ 33 33 rfl w.heap.size 101 i0 (.agg #[.int .i32 0, .string ⟨#[]⟩, .string ⟨#[]⟩]) 3 40 Tryd.underlying33 hi hz0 hz1 hz2 rfl (by decide) _ 0 _ rfl hown _ _ _ rfl hsrc ?c1 ?c2 ?c3 ?_)
    case c1 => simp only [maxLen]; omega
    case c2 => omega
    case c3 => simp
    intro v' w1 ho hg hnil _
    have hB : Below w.heap.size w w1 := ((Below.refl _ w).alloc (Nat.le_refl _) _).grown hg (by simp) (fun k hk => by simp only [Value.ownBlock, Option.some.injEq] at hk; omega)
    have fin : CloneOut 101 3 (some p) xs.length (acCs xs) w (.returned v') w1 := ⟨_, rfl, ho, hB, ⟨fun h => absurd h hnil, fun h => by cases h⟩⟩
    have FIN := Lib.hid fin
    clear fin hB ho hg hnil hsrc hown
    go_wp2
    go_ret
    exact FIN.out

end Go.Proofs.YtfgjbcejpjcpeaaDoor
