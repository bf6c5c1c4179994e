/- A slice of nodes in memory; what From makes of nodes. -/
import Derived.Test.YtfgjbcejpjcpeaaDoorNew
import Derived.Test.YtfgjbcejpjcpeaaDoorThere
namespace Go.Proofs.YtfgjbcejpjcpeaaDoor
open Go.RowKit

/-- A slice of nodes: each node's seventeen cells in a row, its two slices' cells below a block number. -/
def NdsAt (B : Nat) (w : World) (a : Option Addr) (L : List Nd) : Prop :=
  ∀ i n, L[i]? = some n → ∃ b off v, a = some ⟨b, off, none⟩ ∧ b < B ∧ NdV B w v n ∧ ∀ j u, v.cells[j]? = some u → w.cell? ⟨b, off + i * 17 + j, none⟩ = some u

theorem NdV.below {B : Nat} {w w' : World} {v : Value} {n : Nd} (h : NdV B w v n) (hb : Below B w w') : NdV B w' v n := by
  obtain ⟨da, dc, aa, ac, rfl, h1, h2⟩ := h
  exact ⟨da, dc, aa, ac, rfl, h1.below hb, h2.below hb⟩
theorem NdV.mono {B B' : Nat} {w : World} {v : Value} {n : Nd} (h : NdV B w v n) (hb : B ≤ B') : NdV B' w v n := by
  obtain ⟨da, dc, aa, ac, rfl, h1, h2⟩ := h
  exact ⟨da, dc, aa, ac, rfl, h1.mono hb, h2.mono hb⟩
theorem NdsAt.below {B : Nat} {w w' : World} {a : Option Addr} {L : List Nd} (h : NdsAt B w a L) (hb : Below B w w') : NdsAt B w' a L := fun i n hi => by
  obtain ⟨b, off, v, h1, h2, h3, h4⟩ := h i n hi
  exact ⟨b, off, v, h1, h2, h3.below hb, fun j u hj => (hb.cell (p := ⟨b, off + i * 17 + j, none⟩) h2).trans (h4 j u hj)⟩

theorem addr_add (b o j : Nat) : (⟨b, o, none⟩ : Addr).add j = ⟨b, o + j, none⟩ := by unfold Addr.add; split <;> simp_all

/-- A struct is read out of the middle of a block. -/
theorem run_loadVar_at {P : Program} (w : World) (p : Addr) (ty : TypeId) (cs : Array Value) (d : TypeDesc) (hc : ∀ j u, cs[j]? = some u → w.cell? (p.add j) = some u) (hu : P.underlying ty = some d) (hd : oneD d = false) (hi : (P.info? ty).map (·.size) = some cs.size) :
    (loadVar ty p).run P w = .ok (.agg cs) w := by
  have hl : (loadCells p cs.toList.length).run P w = .ok cs.toList.toArray w := run_loadCells_list (P := P) w p cs.toList (fun j v hv => hc j v (by simpa using hv))
  cases hq : P.info? ty with
  | none => simp [hq] at hi
  | some i =>
    have hs : i.size = cs.size := by simpa [hq] using hi
    have hsz : (sizeOf ty).run P w = .ok i.size w := by simp [sizeOf, typeInfo, hq]
    simp only [loadVar, isAgg, Sem.run_bind, run_underlying hu, Result.andThen_ok]
    have he : cs.toList.length = cs.size := Array.length_toList
    rw [he] at hl
    cases d <;> first | (simp [oneD] at hd; done) | (simp [Sem.run, hsz, hs, hl, Result.andThen])

theorem wpList_load_at {P : Program} {w : World} {ops : Array Oper} {rest : List Oper} {o : Oper} {a : Act} {Q : Exit → Act → World → Prop} (hg : o.guard = none) (ty : TypeId) (x : Operand) (ho : o.op = .load ty x) (p : Addr) (hx : a.eval x = .pointer (some p))
    (cs : Array Value) (d : TypeDesc) (hc : ∀ j u, cs[j]? = some u → w.cell? (p.add j) = some u) (hu : P.underlying ty = some d) (hd : oneD d = false) (hi : (P.info? ty).map (·.size) = some cs.size)
    (hK : wpList P ops Q rest (a.put o.dst (.agg cs)) w) : wpList P ops Q (o :: rest) a w :=
  wpList_plain hg fun K hK' => by
    unfold Oper.wp execOp
    simp only [ho, hx, Instr.loadAt, Instr.sureAddr, Sem.run_bind, Sem.run_pure, Result.andThen_ok, run_loadVar_at w p ty cs d hc hu hd hi]
    exact hK' _ _ hK

/-- What From makes of nodes: the tree, or the place and the number of what is wrong. -/
def fromL : List Nd → Nat → List (Key × Nd) → Except (Nat × Int) (List (Key × Nd))
  | [], _, M => .ok M
  | n :: l, i, M => if rightN n ≠ 0 then .error (i, rightN n) else if (mget M (keyN n)).isSome = true then .error (i, 71) else fromL l (i + 1) (mput M (keyN n) n)
def parL (M : List (Key × Nd)) : List Nd → Nat → Except (Nat × Int) Unit
  | [], _ => .ok ()
  | n :: l, i => if n.path.size ≠ 1 ∧ mget M (parentB n.path).data.toList = none then .error (i, 73) else parL M l (i + 1)
def fromN (L : List Nd) : Except (Nat × Int) (List (Key × Nd)) :=
  match fromL L 0 [] with
  | .error e => .error e
  | .ok M => if mget M [47] = none then .error (0, 70) else match parL M L 0 with
    | .error e => .error e
    | .ok _ => .ok M

theorem fromL_step (L : List Nd) (k : Nat) (n : Nd) (M : List (Key × Nd)) (h : L[k]? = some n) : fromL (L.drop k) k M = if rightN n ≠ 0 then .error (k, rightN n) else if (mget M (keyN n)).isSome = true then .error (k, 71) else fromL (L.drop (k + 1)) (k + 1) (mput M (keyN n) n) := by
  obtain ⟨hk, e⟩ := List.getElem?_eq_some_iff.1 h
  rw [List.drop_eq_getElem_cons hk, e]; rfl
theorem parL_step (M : List (Key × Nd)) (L : List Nd) (k : Nat) (n : Nd) (h : L[k]? = some n) : parL M (L.drop k) k = if n.path.size ≠ 1 ∧ mget M (parentB n.path).data.toList = none then .error (k, 73) else parL M (L.drop (k + 1)) (k + 1) := by
  obtain ⟨hk, e⟩ := List.getElem?_eq_some_iff.1 h
  rw [List.drop_eq_getElem_cons hk, e]; rfl
theorem fromL_right : ∀ (l : List Nd) (i : Nat) (M0 M : List (Key × Nd)), fromL l i M0 = .ok M → ∀ n ∈ l, rightN n = 0
  | [], _, _, _, _, n, hn => by simp at hn
  | x :: l, i, M0, M, h, n, hn => by
    unfold fromL at h
    split at h
    · cases h
    · rename_i hx
      split at h
      · cases h
      · rcases List.mem_cons.1 hn with rfl | hn
        · simpa using hx
        · exact fromL_right l _ _ _ h n hn

/-- What a look into the map of nodes gives. -/
theorem NodesAt.look {S : Nat → Prop} {w : World} {bn : Nat} {M : List (Key × Nd)} {N : Nat} (h : NodesAt S w bn M N) (s : ByteArray) (hs : s.size ≤ maxLen) :
    ∃ cs, (cs.size = 17 ∧ cs.all (·.oneCell') = true) ∧ (Instr.lookup 84 (.map (some bn)) (.string s) true).run Tryd.prog w = .ok (.tuple #[.agg cs, .bool (mget M s.data.toList).isSome]) w ∧
      (Instr.lookup 84 (.map (some bn)) (.string s) false).run Tryd.prog w = .ok (.agg cs) w ∧
      ∀ n, mget M s.data.toList = some n → NdS S w (.agg cs) n := by
  obtain ⟨mm, hm, hr⟩ := h.ex
  have q1 := SMap.look_ok (e := 37) hm strT Tryd.underlying84 (z := .agg zeroNd) (by kernel_rfl) hs
  have q2 := SMap.look (e := 37) hm strT Tryd.underlying84 (z := .agg zeroNd) (by kernel_rfl) hs
  rcases hr.get s.data.toList with ⟨h1, h2⟩ | ⟨y, v, h1, h2, h3⟩
  · rw [h2] at q1 q2
    exact ⟨zeroNd, ⟨rfl, by simp [zeroNd, Value.oneCell']⟩, by rw [h1]; exact q1, q2, fun n hn => by rw [h1] at hn; cases hn⟩
  · obtain ⟨da, dc, aa, ac, rfl, h4⟩ := h3
    rw [h2] at q1 q2
    exact ⟨_, ⟨rfl, cells_node _ _ _ _ _ _ _⟩, by rw [h1]; exact q1, q2, fun n hn => by rw [h1] at hn; cases hn; exact ⟨da, dc, aa, ac, rfl, h4⟩⟩
end Go.Proofs.YtfgjbcejpjcpeaaDoor
