/- Maps keyed by strings, as lists of keys and values in order: what each operation on a map makes of the list. -/
import Derived.Test.YtfgjbcejpjcpeaaDoorLaw
import Derived.Maps.Range
namespace Go.Proofs.YtfgjbcejpjcpeaaDoor
open Go.RowKit Go.Maps
open Go.ChangeMaps (notKey putKey delKey)
open Go.WideElems (Fit rd rg pl rd_key rd_val rg_of)

section lists
variable {α β : Type}
abbrev Key := List UInt8

def mget (m : List (Key × α)) (k : Key) : Option α := (m.find? fun x => x.1 == k).map (·.2)
def mins (x : Key × α) : List (Key × α) → List (Key × α)
  | [] => [x]
  | y :: r => if bytesBefore x.1 y.1 then x :: y :: r else y :: mins x r
def mdel (m : List (Key × α)) (k : Key) : List (Key × α) := m.filter fun x => !(x.1 == k)
def mput (m : List (Key × α)) (k : Key) (v : α) : List (Key × α) := mins (k, v) (mdel m k)
def MSorted (m : List (Key × α)) : Prop := m.Pairwise fun x y => bytesBefore x.1 y.1 = true

theorem mem_mins {x y : Key × α} : ∀ {m : List (Key × α)}, y ∈ mins x m ↔ y = x ∨ y ∈ m
  | [] => by simp [mins]
  | z :: r => by
    unfold mins
    split
    · simp
    · simp only [List.mem_cons, mem_mins (m := r)]
      constructor
      · rintro (h | h | h) <;> simp [h]
      · rintro (h | h | h) <;> simp [h]
theorem mem_mdel {m : List (Key × α)} {k : Key} {x : Key × α} : x ∈ mdel m k ↔ x ∈ m ∧ x.1 ≠ k := by simp [mdel]
theorem mem_mput {m : List (Key × α)} {k : Key} {v : α} {x : Key × α} : x ∈ mput m k v ↔ x = (k, v) ∨ (x ∈ m ∧ x.1 ≠ k) := by
  rw [mput, mem_mins, mem_mdel]
theorem mins_length (x : Key × α) : ∀ m : List (Key × α), (mins x m).length = m.length + 1
  | [] => rfl
  | y :: r => by unfold mins; split <;> simp [mins_length x r]

theorem mins_sorted {x : Key × α} : ∀ {m : List (Key × α)}, MSorted m → (∀ y ∈ m, y.1 ≠ x.1) → MSorted (mins x m)
  | [], _, _ => by simp [mins, MSorted]
  | y :: r, h, hne => by
    obtain ⟨h1, h2⟩ := List.pairwise_cons.1 h
    unfold mins
    split
    · rename_i hb
      refine List.pairwise_cons.2 ⟨fun z hz => ?_, h⟩
      rcases List.mem_cons.1 hz with rfl | hz
      · exact hb
      · exact WideShapes.bytes_trans _ _ _ hb (h1 z hz)
    · rename_i hb
      have hyx : bytesBefore y.1 x.1 = true := by
        rcases WideAt.bytes_total _ _ (hne y (by simp)).symm with h' | h'
        · exact absurd h' hb
        · exact h'
      refine List.pairwise_cons.2 ⟨fun z hz => ?_, mins_sorted h2 fun z hz => hne z (by simp [hz])⟩
      rcases mem_mins.1 hz with rfl | hz
      · exact hyx
      · exact h1 z hz
theorem mdel_sorted {m : List (Key × α)} (h : MSorted m) (k : Key) : MSorted (mdel m k) := h.filter _
theorem mput_sorted {m : List (Key × α)} (h : MSorted m) (k : Key) (v : α) : MSorted (mput m k v) := mins_sorted (mdel_sorted h k) fun _ hy => (mem_mdel.1 hy).2
theorem MSorted.keys_ne {m : List (Key × α)} (h : MSorted m) : m.Pairwise fun x y => x.1 ≠ y.1 :=
  h.imp fun {a b} hb e => by rw [e, WideAt.bytes_irrefl] at hb; cases hb

theorem mget_some_mem {m : List (Key × α)} {k : Key} {v : α} (h : mget m k = some v) : (k, v) ∈ m := by
  unfold mget at h
  obtain ⟨x, hx, rfl⟩ := Option.map_eq_some_iff.1 h
  have h1 := List.find?_some hx
  have h2 := List.mem_of_find?_eq_some hx
  have : x.1 = k := by simpa using h1
  rw [← this]; exact h2
theorem mget_none {m : List (Key × α)} {k : Key} (h : mget m k = none) : ∀ x ∈ m, x.1 ≠ k := by
  unfold mget at h
  intro x hx e
  have := List.find?_eq_none.1 (Option.map_eq_none_iff.1 h) x hx
  simp [e] at this
theorem mget_of_mem {m : List (Key × α)} (h : MSorted m) {k : Key} {v : α} (hm : (k, v) ∈ m) : mget m k = some v := by
  cases hg : mget m k with
  | none => exact absurd rfl (mget_none hg _ hm)
  | some u =>
    have hu := mget_some_mem hg
    obtain ⟨i, hi, ei⟩ := List.getElem_of_mem hm
    obtain ⟨j, hj, ej⟩ := List.getElem_of_mem hu
    have hp := List.pairwise_iff_getElem.1 h.keys_ne
    have : i = j := by
      rcases Nat.lt_trichotomy i j with hlt | he | hlt
      · exact absurd (by rw [ei, ej]) (hp i j hi hj hlt)
      · exact he
      · exact absurd (by rw [ei, ej]) (hp j i hj hi hlt)
    subst this
    rw [ei] at ej
    cases ej; rfl
theorem mget_none_of {m : List (Key × α)} {k : Key} (h : ∀ x ∈ m, x.1 ≠ k) : mget m k = none := by
  unfold mget
  rw [List.find?_eq_none.2 (fun x hx => by simpa using h x hx)]; rfl

theorem mins_map (f : α → β) (x : Key × α) : ∀ m : List (Key × α), (mins x m).map (fun y => (y.1, f y.2)) = mins (x.1, f x.2) (m.map fun y => (y.1, f y.2))
  | [] => rfl
  | y :: r => by
    unfold mins
    simp only [List.map_cons]
    split <;> simp_all [mins_map f x r]
theorem mdel_map (f : α → β) (m : List (Key × α)) (k : Key) : (mdel m k).map (fun y => (y.1, f y.2)) = mdel (m.map fun y => (y.1, f y.2)) k := by
  unfold mdel; rw [List.filter_map]; rfl
theorem mput_map (f : α → β) (m : List (Key × α)) (k : Key) (v : α) : (mput m k v).map (fun y => (y.1, f y.2)) = mput (m.map fun y => (y.1, f y.2)) k (f v) := by
  unfold mput; rw [mins_map, mdel_map]
theorem mget_map (f : α → β) (m : List (Key × α)) (k : Key) : mget (m.map fun y => (y.1, f y.2)) k = (mget m k).map f := by
  unfold mget; rw [List.find?_map]; simp only [Option.map_map]; rfl
end lists

/-- What a map reads as: its keys in order, each with its value. -/
def kvD (m : List (Key × Value)) : DataW Value := .map (m.map fun x => (.string x.1, .held x.2))
def Rv (v : Value) : Option (DataW Value × List MemPlace) := some (.held v, [])

theorem insert_kv (x : Key × Value) : ∀ m : List (Key × Value), DataW.insert (Lit.string x.1, DataW.held x.2) (m.map fun x => (Lit.string x.1, DataW.held x.2)) = (mins x m).map fun x => (Lit.string x.1, DataW.held x.2)
  | [] => rfl
  | y :: r => by
    by_cases h : bytesBefore x.1 y.1 = true <;> simp [DataW.insert, mins, Lit.before, h, insert_kv x r]
theorem filter_kv (k : Key) (m : List (Key × Value)) : (m.map fun x => (Lit.string x.1, DataW.held x.2)).filter (fun p => !p.1.sameKey (.string k)) = (mdel m k).map fun x => (Lit.string x.1, DataW.held x.2) := by
  unfold mdel; rw [List.filter_map]; rfl
theorem kvD_put (m : List (Key × Value)) (k : Key) (v : Value) : (kvD m).put (.string k) (.held v) = kvD (mput m k v) := by
  simp only [kvD, DataW.put, filter_kv, mput]
  rw [insert_kv (k, v)]
theorem kvD_del (m : List (Key × Value)) (k : Key) : (kvD m).del (.string k) = kvD (mdel m k) := by
  simp only [kvD, DataW.del, filter_kv]
theorem find_kv (m : List (Key × Value)) (k : Key) : (m.map fun x => (Lit.string x.1, DataW.held x.2)).find? (fun p => p.1.sameKey (.string k)) = (m.find? fun x => x.1 == k).map fun x => (Lit.string x.1, DataW.held x.2) := by
  rw [List.find?_map]; rfl
theorem kvD_at (m : List (Key × Value)) (k : Key) (z : Value) : (kvD m).atKey (.string k) (.held z) = .held ((mget m k).getD z) := by
  simp only [kvD, DataW.atKey, find_kv, mget]
  cases m.find? fun x => x.1 == k <;> rfl
theorem kvD_has (m : List (Key × Value)) (k : Key) : Maps.has (kvD m) (.string k) = (mget m k).isSome := by
  simp only [kvD, Maps.has, mget, List.any_map, Option.isSome_map]
  induction m with
  | nil => rfl
  | cons x r ih =>
    have e : (Lit.string x.1).sameKey (.string k) = (x.1 == k) := rfl
    simp only [List.any_cons, Function.comp, List.find?_cons, e] at ih ⊢
    cases x.1 == k
    · simpa using ih
    · rfl
theorem kvD_inj {m m' : List (Key × Value)} (h : kvD m = kvD m') : m = m' := by
  simp only [kvD, DataW.map.injEq] at h
  exact (List.map_inj_right (fun x y e => by cases x; cases y; simp at e; simp [e.1, e.2])).1 h

section
variable {P : Program} {kt : TypeId} {w : World} {b : Nat} {m : List (Key × Value)}

/-- Block b is a map that holds just these keys and values. -/
def SMap (P : Program) (kt : TypeId) (w : World) (b : Nat) (m : List (Key × Value)) : Prop := w.ownsMap P kt Rv b m.length (kvD m)

theorem SMap.of {n : Nat} (h : w.ownsMap P kt Rv b n (kvD m)) : SMap P kt w b m := by
  obtain ⟨es, clock, hb, F, hs, hD⟩ := h
  refine ⟨es, clock, hb, F, ?_, hD⟩
  simp only [kvD, DataW.map.injEq] at hD
  have := congrArg List.length hD
  rw [length_sorted] at this
  simp at this
  omega
theorem SMap.made (P : Program) (kt : TypeId) (w : World) : SMap P kt (w.alloc (.map #[] 0)) w.heap.size [] := World.ownsMap_made w P kt Rv
theorem SMap.lt (h : SMap P kt w b m) : b < w.heap.size := World.ownsMap.lt h
theorem SMap.isMap (h : SMap P kt w b m) : ∃ es c, w.heap[b]? = some (.map es c) := by obtain ⟨es, c, hb, _⟩ := h; exact ⟨es, c, hb⟩
theorem SMap.keep {w' : World} (h : SMap P kt w b m) (he : w'.heap[b]? = w.heap[b]?) : SMap P kt w' b m := by
  obtain ⟨es, clock, hb, r⟩ := h
  exact ⟨es, clock, he.trans hb, r⟩
theorem SMap.sorted (K : Keyed P kt) (h : SMap P kt w b m) : MSorted m := by
  obtain ⟨es, clock, hb, F, hs, hD⟩ := h
  simp only [kvD, DataW.map.injEq] at hD
  have := Maps.sorted_sorted K.one _ (Maps.fit_keys F) (Maps.fit_apart K F)
  rw [← hD, List.pairwise_map] at this
  exact this
theorem keyOf_s (hk : P.underlying kt = some .string) {s : ByteArray} (hs : s.size ≤ maxLen) : keyOf P kt (.string s) = some (.string s.data.toList) := by
  simp [keyOf, hk, mapKey, hs]
theorem keyOf_s_inv (hk : P.underlying kt = some .string) {v : Value} {k : Key} (h : keyOf P kt v = some (.string k)) : ∃ s : ByteArray, v = .string s ∧ s.data.toList = k ∧ s.size ≤ maxLen := by
  simp only [keyOf, hk, mapKey] at h
  cases v <;> simp at h
  exact ⟨_, rfl, h.2, h.1⟩

theorem SMap.look {t e : TypeId} (h : SMap P kt w b m) (hk : P.underlying kt = some .string) (ht : P.underlying t = some (.map kt e)) {z : Value} (hz : (zeroValue e).run P w = .ok z w) {s : ByteArray} (hs : s.size ≤ maxLen) :
    (Instr.lookup t (.map (some b)) (.string s) false).run P w = .ok ((mget m s.data.toList).getD z) w := by
  obtain ⟨v, ps, hr, hv⟩ := World.ownsMap.lookup h (string_keyed hk) ht hz (zd := .held z) (zp := []) rfl (keyOf_s hk hs)
  rw [kvD_at] at hv
  simp only [Rv, Option.some.injEq, Prod.mk.injEq, DataW.held.injEq] at hv
  rw [hr, hv.1]
theorem SMap.look_ok {t e : TypeId} (h : SMap P kt w b m) (hk : P.underlying kt = some .string) (ht : P.underlying t = some (.map kt e)) {z : Value} (hz : (zeroValue e).run P w = .ok z w) {s : ByteArray} (hs : s.size ≤ maxLen) :
    (Instr.lookup t (.map (some b)) (.string s) true).run P w = .ok (.tuple #[(mget m s.data.toList).getD z, .bool (mget m s.data.toList).isSome]) w := by
  obtain ⟨v, ps, hr, hv⟩ := World.ownsMap.look_ok h (string_keyed hk) ht hz (zd := .held z) (zp := []) rfl (keyOf_s hk hs)
  rw [kvD_at] at hv
  simp only [Rv, Option.some.injEq, Prod.mk.injEq, DataW.held.injEq] at hv
  rw [hr, hv.1, kvD_has]
theorem SMap.len {t e : TypeId} (h : SMap P kt w b m) (ht : P.underlying t = some (.map kt e)) (ty : TypeId) : (Builtin.len_ #[t] ty #[.map (some b)]).run P w = .ok (.int .i64 m.length) w := by
  have := World.ownsMap.len h ht ty
  simpa [kvD, Maps.size] using this
theorem SMap.store {t e : TypeId} (h : SMap P kt w b m) (hk : P.underlying kt = some .string) (ht : P.underlying t = some (.map kt e)) (hn : m.length < maxLen) {s : ByteArray} (hs : s.size ≤ maxLen) (v : Value) :
    ∃ w', (Instr.mapUpdate t (.map (some b)) (.string s) v).run P w = .ok () w' ∧ SMap P kt w' b (mput m s.data.toList v) ∧ w.mapTurned w' b := by
  obtain ⟨w', hr, ho, ht'⟩ := World.ownsMap.store h (string_keyed hk) ht hn (keyOf_s hk hs) (val := v) (d := .held v) (ps := []) rfl
  rw [kvD_put] at ho
  exact ⟨w', hr, SMap.of ho, ht'⟩
theorem SMap.drop {t e : TypeId} (h : SMap P kt w b m) (hk : P.underlying kt = some .string) (ht : P.underlying t = some (.map kt e)) {s : ByteArray} (hs : s.size ≤ maxLen) (ty : TypeId) :
    ∃ w', (Builtin.delete_ #[t, kt] ty #[.map (some b), .string s]).run P w = .ok (.tuple #[]) w' ∧ SMap P kt w' b (mdel m s.data.toList) ∧ w.mapTurned w' b := by
  obtain ⟨w', hr, ho, ht'⟩ := World.ownsMap.drop h (string_keyed hk) ht (keyOf_s hk hs) ty
  rw [kvD_del] at ho
  exact ⟨w', hr, SMap.of ho, ht'⟩
end
end Go.Proofs.YtfgjbcejpjcpeaaDoor
