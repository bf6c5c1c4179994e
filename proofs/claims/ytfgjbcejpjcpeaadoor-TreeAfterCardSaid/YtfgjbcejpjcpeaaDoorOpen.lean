/- What a law's arguments are, opened: bytes, lists of rights, nodes. -/
import Derived.Test.YtfgjbcejpjcpeaaDoorNdV
import Derived.ProofKit
import Derived.SizedLaws
import Derived.Deep.Slices
import Derived.Deep.Strs
namespace Go.Proofs.YtfgjbcejpjcpeaaDoor
open Go.ChangeShapes Go.WideShapes Go.ChangeAt Go.RowKit Go.Deep
set_option maxHeartbeats 2000000
set_option maxRecDepth 100000

theorem Tryd.cells_u8 : Tryd.prog.cellsOf 5 = 1 := by kernel_rfl
theorem Tryd.bytes_u8 : Tryd.prog.bytesOf 5 = 1 := by kernel_rfl
theorem Tryd.cells_acl : Tryd.prog.cellsOf 101 = 3 := by kernel_rfl
theorem Tryd.bytes_acl : Tryd.prog.bytesOf 101 = 40 := by kernel_rfl
theorem Tryd.cells_id : Tryd.prog.cellsOf 99 = 2 := by kernel_rfl
theorem Tryd.cells_str : Tryd.prog.cellsOf 9 = 1 := by kernel_rfl
theorem Tryd.cells_node : Tryd.prog.cellsOf 37 = 17 := by kernel_rfl
theorem Tryd.cells_quota : Tryd.prog.cellsOf 35 = 3 := by kernel_rfl
theorem Tryd.cells_i64 : Tryd.prog.cellsOf 2 = 1 := by kernel_rfl
theorem Tryd.cells_i32 : Tryd.prog.cellsOf 21 = 1 := by kernel_rfl
theorem Tryd.cells_bool : Tryd.prog.cellsOf 4 = 1 := by kernel_rfl
theorem Tryd.cells_u8s : Tryd.prog.cellsOf 32 = 1 := by kernel_rfl
theorem Tryd.cells_acls : Tryd.prog.cellsOf 33 = 1 := by kernel_rfl

/-- Every weight of a datum is within reach. -/
def Light {H : Type} (t : TypeId) (d : DataW H) : Prop := ∀ n ∈ d.weights Tryd.prog t, n ≤ 140737488355328

theorem light_each {H : Type} {ts : List TypeId} {ds : List (DataW H)} (h : (DataW.weightsEach Tryd.prog ts ds).all (· ≤ reachBytes) = true) {j : Nat} {t : TypeId} {d : DataW H} (ht : ts[j]? = some t) (hd : ds[j]? = some d) : Light t d := fun n hn => by
  have := List.all_eq_true.1 h _ (DataW.weights_mem_each ht hd n hn)
  have h2 := reachBytes_lt
  have h3 : n ≤ reachBytes := by simpa using this
  omega

theorem light_agg {H : Type} {t : TypeId} {fs : Array Field} {ds : List (DataW H)} (ht : Tryd.prog.underlying t = some (.struct fs)) (h : Light t (.agg ds)) {j : Nat} {u : TypeId} {d : DataW H} (hj : (fs.toList.map (·.type))[j]? = some u) (hd : ds[j]? = some d) : Light u d := fun n hn => by
  refine h n ?_
  simp only [DataW.weights, ht]
  exact DataW.weights_mem_each hj hd n hn

theorem weightsAll_mem {H : Type} {P : Program} {e : TypeId} : ∀ {ds : List (DataW H)} {d : DataW H}, d ∈ ds → ∀ n ∈ d.weights P e, n ∈ DataW.weightsAll P e ds
  | d0 :: ds, d, hd, n, hn => by
    simp only [DataW.weightsAll, List.mem_append]
    rcases List.mem_cons.1 hd with rfl | h
    · exact Or.inl hn
    · exact Or.inr (weightsAll_mem h n hn)

theorem light_elem {H : Type} {t e : TypeId} {ds sp : List (DataW H)} (ht : Tryd.prog.underlying t = some (.slice e)) (h : Light t (.slice ds sp)) {d : DataW H} (hd : d ∈ ds) : Light e d := fun n hn => by
  refine h n ?_
  simp only [DataW.weights, ht, List.mem_cons, List.mem_append]
  exact Or.inr (Or.inl (weightsAll_mem hd n hn))

theorem light_len {H : Type} {t e : TypeId} {ds sp : List (DataW H)} (ht : Tryd.prog.underlying t = some (.slice e)) (h : Light t (.slice ds sp)) : (ds.length + sp.length) * Tryd.prog.bytesOf e ≤ 140737488355328 := by
  refine h _ ?_
  simp only [DataW.weights, ht]
  exact List.mem_cons_self

theorem light_str {H : Type} {t : TypeId} {s : ByteArray} (h : Light (H := H) t (.lit (.string s.data.toList))) : s.size ≤ 140737488355328 := by
  have := h s.data.toList.length (by simp [DataW.weights])
  rwa [← Lib.size_eq] at this

section
variable {H : Type} {enc : TypeId × Value → H} {w : World} {fuel : Nat}

/-- A slice of bytes, opened. -/
theorem open_u8s {v : Value} {x : DataW H × List MemPlace} (h : DataW.trod enc Tryd.prog w 0 (fun _ => true) true fuel 32 [v] = some x) (hz : Light 32 x.1) :
    ∃ (l : List UInt8) (a : Option Addr) (cap : Nat), v = .slice a l.length cap ∧ l.length ≤ 140737488355328 ∧ Cells w.heap.size w a (l.map u8v) := by
  rcases open_ints Tryd.underlying32 Tryd.underlying5 Tryd.cells_u8 h with ⟨hcs, rfl⟩ | ⟨a, len, cap, zs, hcs, _, hl, hm, hlen, rfl, hcell, hwf⟩
  · simp only [List.cons.injEq, and_true] at hcs
    subst hcs
    exact ⟨[], none, 0, rfl, by simp, Cells.nil _ _ _⟩
  · simp only [List.cons.injEq, and_true] at hcs
    subst hcs
    simp only [if_true] at hlen
    have hw := light_len Tryd.underlying32 hz
    rw [Tryd.bytes_u8] at hw
    simp only [lits, List.length_map, List.length_take, List.length_drop] at hw
    refine ⟨(zs.take len).map fun z => UInt8.ofNat z.toNat, some a, cap, ?_, ?_, ?_⟩
    · simp only [List.length_map, List.length_take]
      rw [Nat.min_eq_left (by omega)]
    · simp only [List.length_map, List.length_take]; omega
    · intro j u hj
      simp only [List.map_map, List.getElem?_map, List.getElem?_take] at hj
      split at hj
      · rename_i hjl
        have hjz : j < zs.length := by omega
        rw [List.getElem?_eq_getElem hjz] at hj
        simp only [Option.map_some, Option.some.injEq, Function.comp] at hj
        have hc := hcell j hjz
        have hwz := hwf zs[j] (List.getElem_mem _)
        have hc0 := hcell 0 (by omega)
        have hsp := World.cell?_spot hc0
        have hlt := World.block_lt_of_cell? _ _ hc0
        obtain ⟨b, off, sp⟩ := a
        obtain rfl : sp = none := by simpa [Addr.add] using hsp
        refine ⟨b, off, rfl, by simpa [Addr.add] using hlt, ?_⟩
        rw [← add_plain, hc, ← hj]
        rw [List.getD_eq_getElem?_getD, List.getElem?_eq_getElem hjz]
        have h0 : 0 ≤ zs[j] ∧ zs[j] ≤ 255 := by
          have e1 : IntKind.u8.min = 0 := rfl
          have e2 : IntKind.u8.max = 255 := rfl
          simpa [Lit.wf, e1, e2] using hwz
        have e3 : (((UInt8.ofNat zs[j].toNat).toNat : Nat) : Int) = zs[j] := by
          simp only [UInt8.toNat_ofNat']
          omega
        simp only [Option.getD_some, u8v, e3]
      · simp at hj

/-- One right, opened. -/
theorem open_ac {n : Nat} {cs : List Value} {y : DataW H × List MemPlace} (h : DataW.trod enc Tryd.prog w 0 (fun _ => true) true n 101 cs = some y) (hz : Light 101 y.1) :
    ∃ x : Ac, cs = acC x ∧ x.scheme.size ≤ 140737488355328 ∧ x.id.size ≤ 140737488355328 := by
  obtain ⟨y0, y1, m, rfl, hl, h0, h1⟩ := trod_struct2 Tryd.underlying101 h
  rw [Tryd.cells_acl] at hl
  match cs, hl with
  | [c0, c1, c2], _ =>
    rw [Tryd.cells_i32] at h0
    rw [Tryd.cells_id] at h1
    simp only [List.drop_succ_cons, List.drop_zero, List.take_succ_cons, List.take_zero] at h0 h1
    obtain ⟨z0, z1, m1, rfl, _, g0, g1⟩ := trod_struct2 Tryd.underlying99 h1
    rw [Tryd.cells_str] at g0 g1
    simp only [List.drop_succ_cons, List.drop_zero, List.take_succ_cons, List.take_zero] at g0 g1
    obtain ⟨p, e0, rfl, wp⟩ := DataW.trod_int Tryd.underlying21 h0
    obtain ⟨s0, e1, rfl, _⟩ := DataW.trod_string Tryd.underlying9 g0
    obtain ⟨s1, e2, rfl, _⟩ := DataW.trod_string Tryd.underlying9 g1
    simp only [List.cons.injEq, and_true] at e0 e1 e2
    subst e0; subst e1; subst e2
    have q1 : Light 99 (.agg [DataW.lit (.string s0.data.toList), .lit (.string s1.data.toList)] : DataW H) := light_agg Tryd.underlying101 hz (j := 1) rfl rfl
    exact ⟨⟨p, s0, s1⟩, rfl, light_str (light_agg Tryd.underlying99 q1 (j := 0) rfl rfl), light_str (light_agg Tryd.underlying99 q1 (j := 1) rfl rfl)⟩

instance : Inhabited Ac := ⟨⟨0, ⟨#[]⟩, ⟨#[]⟩⟩⟩

theorem acCs_at : ∀ (l : List Ac) (j : Nat) (u : Value), (acCs l)[j]? = some u → ∃ i x, l[i]? = some x ∧ i * 3 ≤ j ∧ (acC x)[j - i * 3]? = some u
  | [], j, u, h => by simp [acCs] at h
  | x :: l, j, u, h => by
    rw [show acCs (x :: l) = acC x ++ acCs l from rfl] at h
    by_cases hj : j < 3
    · rw [List.getElem?_append_left (show j < (acC x).length from hj)] at h
      exact ⟨0, x, rfl, by omega, by simpa using h⟩
    · rw [List.getElem?_append_right (show (acC x).length ≤ j by simp [acC]; omega)] at h
      obtain ⟨i, y, h1, h2, h3⟩ := acCs_at l _ u h
      rw [show (acC x).length = 3 from rfl] at h2 h3
      refine ⟨i + 1, y, by simpa using h1, by omega, ?_⟩
      rw [show j - (i + 1) * 3 = j - 3 - i * 3 by omega]
      exact h3

/-- A slice of rights, opened. -/
theorem open_acls {v : Value} {x : DataW H × List MemPlace} (h : DataW.trod enc Tryd.prog w 0 (fun _ => true) true fuel 33 [v] = some x) (hz : Light 33 x.1) :
    ∃ (l : List Ac) (a : Option Addr) (cap : Nat), v = .slice a l.length cap ∧ l.length * 40 ≤ 140737488355328 ∧ (∀ x ∈ l, x.scheme.size ≤ 140737488355328 ∧ x.id.size ≤ 140737488355328) ∧ Cells w.heap.size w a (acCs l) := by
  rcases open_slice Tryd.underlying33 h with ⟨hcs, rfl⟩ | ⟨a, len, cap, m, n, D, Pl, hcs, _, hl, hm, hmm, rfl, hx⟩
  · simp only [List.cons.injEq, and_true] at hcs
    subst hcs
    exact ⟨[], none, 0, rfl, by simp, by simp, Cells.nil _ _ _⟩
  · simp only [List.cons.injEq, and_true] at hcs
    subst hcs
    simp only [if_true] at hmm
    subst hmm
    have hw := light_len Tryd.underlying33 hz
    rw [Tryd.bytes_acl] at hw
    simp only [List.length_map, List.length_range] at hw
    obtain ⟨X, hX⟩ := choose_lt (n := len) (p := fun i (x : Ac) => (∀ r u, (acC x)[r]? = some u → w.cell? ((a.add (i * 3)).add r) = some u) ∧ x.scheme.size ≤ 140737488355328 ∧ x.id.size ≤ 140737488355328) fun i hi => by
      obtain ⟨cs', h1, h2⟩ := hx i (by omega)
      obtain ⟨x, rfl, z1, z2⟩ := open_ac h2 (light_elem Tryd.underlying33 hz (List.mem_map.2 ⟨i, List.mem_range.2 hi, rfl⟩))
      rw [Tryd.cells_acl] at h1
      obtain ⟨_, _, h3⟩ := World.cells?_some h1
      refine ⟨x, fun r u hr => ?_, z1, z2⟩
      rw [h3 r (by have := (List.getElem?_eq_some_iff.1 hr).1; simpa [acC] using this)]
      exact hr
    refine ⟨(List.range len).map X, some a, m, by simp, by simp; omega, fun x hx' => ?_, fun j u hj => ?_⟩
    · obtain ⟨i, hi, rfl⟩ := List.mem_map.1 hx'
      exact (hX i (List.mem_range.1 hi)).2
    · obtain ⟨i, x, h1, h2, h3⟩ := acCs_at _ _ _ hj
      simp only [List.getElem?_map] at h1
      by_cases hi : i < len
      · rw [List.getElem?_range hi] at h1
        simp only [Option.map_some, Option.some.injEq] at h1
        subst h1
        have hc0 := (hX 0 (by omega)).1 0 _ rfl
        have hsp := World.cell?_spot hc0
        have hlt := World.block_lt_of_cell? _ _ hc0
        obtain ⟨b, off, sp⟩ := a
        obtain rfl : sp = none := by simpa [Addr.add] using hsp
        refine ⟨b, off, rfl, by simpa [Addr.add] using hlt, ?_⟩
        have := (hX i hi).1 _ u h3
        rw [add_plain, add_plain] at this
        rw [← this]
        congr 2
        omega
      · rw [List.getElem?_eq_none (by simp; omega)] at h1
        simp at h1

/-- A node, opened. -/
theorem open_node {cs : List Value} {x : DataW H × List MemPlace} (h : DataW.trod enc Tryd.prog w 0 (fun _ => true) true fuel 37 cs = some x) (hz : Light 37 x.1) :
    ∃ (n : Nd) (da aa : Option Addr) (dc ac : Nat), cs = (ndC n (.slice da n.data.length dc) (.slice aa n.acl.length ac)).toList ∧ Fit n ∧ Cells w.heap.size w da (n.data.map u8v) ∧ Cells w.heap.size w aa (acCs n.acl) := by
  obtain ⟨xs, m, _, rfl, hl, hn, hf⟩ := DataW.trod_struct Tryd.underlying37 h
  rw [Tryd.cells_node] at hl
  match cs, hl with
  | [c0, c1, c2, c3, c4, c5, c6, c7, c8, c9, c10, c11, c12, c13, c14, c15, c16], _ =>
  match xs, hn with
  | [x0, x1, x2, x3, x4, x5, x6, x7, x8, x9, x10, x11, x12, x13, x14], _ =>
    have f0 := hf 0 _ rfl
    have f1 := hf 1 _ rfl
    have f2 := hf 2 _ rfl
    have f3 := hf 3 _ rfl
    have f4 := hf 4 _ rfl
    have f5 := hf 5 _ rfl
    have f6 := hf 6 _ rfl
    have f7 := hf 7 _ rfl
    have f8 := hf 8 _ rfl
    have f9 := hf 9 _ rfl
    have f10 := hf 10 _ rfl
    have f11 := hf 11 _ rfl
    have f12 := hf 12 _ rfl
    have f13 := hf 13 _ rfl
    have f14 := hf 14 _ rfl
    clear hf h
    simp [Tryd.cells_str, Tryd.cells_u8s, Tryd.cells_acls, Tryd.cells_i64, Tryd.cells_i32, Tryd.cells_quota] at f0 f1 f2 f3 f4 f5 f6 f7 f8 f9 f10 f11 f12 f13 f14
    obtain ⟨s, e0, rfl, _⟩ := DataW.trod_string Tryd.underlying9 f0
    obtain ⟨d, da, dc, rfl, hd1, hd2⟩ := open_u8s f1 (light_agg Tryd.underlying37 hz (j := 1) rfl rfl)
    obtain ⟨l, aa, ac, rfl, ha1, ha2, ha3⟩ := open_acls f2 (light_agg Tryd.underlying37 hz (j := 2) rfl rfl)
    obtain ⟨z3, e3, _⟩ := DataW.trod_int Tryd.underlying2 f3
    obtain ⟨z4, e4, _⟩ := DataW.trod_int Tryd.underlying2 f4
    obtain ⟨z5, e5, _⟩ := DataW.trod_int Tryd.underlying2 f5
    obtain ⟨z6, e6, _⟩ := DataW.trod_int Tryd.underlying2 f6
    obtain ⟨z7, e7, _⟩ := DataW.trod_int Tryd.underlying2 f7
    obtain ⟨z8, e8, _⟩ := DataW.trod_int Tryd.underlying2 f8
    obtain ⟨z9, e9, _⟩ := DataW.trod_int Tryd.underlying2 f9
    obtain ⟨z10, e10, _⟩ := DataW.trod_int Tryd.underlying2 f10
    obtain ⟨z11, e11, _⟩ := DataW.trod_int Tryd.underlying21 f11
    obtain ⟨z12, e12, _⟩ := DataW.trod_int Tryd.underlying21 f12
    obtain ⟨z13, e13, _⟩ := DataW.trod_int Tryd.underlying21 f13
    obtain ⟨q0, q1, q2, m2, _, _, g0, g1, g2⟩ := trod_struct3 Tryd.underlying35 f14
    simp only [Tryd.cells_bool, Tryd.cells_i64, List.drop_succ_cons, List.drop_zero, List.take_succ_cons, List.take_zero] at g0 g1 g2
    obtain ⟨z14, e14, _⟩ := DataW.trod_bool Tryd.underlying4 g0
    obtain ⟨z15, e15, _⟩ := DataW.trod_int Tryd.underlying2 g1
    obtain ⟨z16, e16, _⟩ := DataW.trod_int Tryd.underlying2 g2
    simp only [List.cons.injEq, and_true] at e0 e3 e4 e5 e6 e7 e8 e9 e10 e11 e12 e13 e14 e15 e16
    have hs := light_str (light_agg Tryd.underlying37 hz (j := 0) rfl rfl)
    subst e0 e3 e4 e5 e6 e7 e8 e9 e10 e11 e12 e13 e14 e15 e16
    exact ⟨⟨s, d, l, z3, z4, z5, z6, z7, z8, z9, z10, z11, z12, z13, z14, z15, z16⟩, da, aa, dc, ac, rfl,
      ⟨by simp only; omega, hd1, ha1, fun x hx => ⟨by have := (ha2 x hx).1; omega, by have := (ha2 x hx).2; omega⟩⟩, hd2, ha3⟩

end
end Go.Proofs.YtfgjbcejpjcpeaaDoor
