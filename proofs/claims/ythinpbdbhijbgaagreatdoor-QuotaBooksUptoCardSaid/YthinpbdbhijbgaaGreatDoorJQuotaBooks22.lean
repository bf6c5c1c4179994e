/- The walk of stat.Same at any two nodes. The walks of maps.EqualFunc at two maps of the same nodes, and of tree.Same. The walk of a quota book's Turn. The walk of the reference's Turn of a quota book. -/
import Derived.Test.YthinpbdbhijbgaaGreatDoorJQuotaBooks18
import Derived.Test.YthinpbdbhijbgaaGreatDoorJQuotaBooks19
import Derived.Test.YthinpbdbhijbgaaGreatDoorJQuotaBooks20
import Derived.Test.YthinpbdbhijbgaaGreatDoorJQuotaBooks21
import Derived.Test.YthinpbdbhijbgaaGreatDoorJQuotaBooks17
import Derived.Test.YthinpbdbhijbgaaGreatDoorJQuotaBooks9
import Derived.Test.YthinpbdbhijbgaaGreatDoorJQuotaBooks5
import Derived.Test.YthinpbdbhijbgaaGreatDoorJQuotaBooks7
import Derived.Test.YthinpbdbhijbgaaGreatDoorJQuotaBooks10
import Derived.Test.YthinpbdbhijbgaaGreatDoorJQuotaBooks13
import Derived.BigQuiet
namespace Go.Proofs.YthinpbdbhijbgaaGreatDoor
open Go.RowKit

theorem ssame_any (x y : Nd) (da aa db ab : Option Addr) (dc ac dd ad : Nat) (w : World) (hf : Fit x) (hf' : Fit y) (hD : Cells w.heap.size w da (x.data.map u8v)) (hA : Cells w.heap.size w aa (acCs x.acl)) (hD' : Cells w.heap.size w db (y.data.map u8v)) (hA' : Cells w.heap.size w ab (acCs y.acl)) :
    Calls Tryz.prog 98 #[.agg (ndC x (.slice da x.data.length dc) (.slice aa x.acl.length ac)), .agg (ndC y (.slice db y.data.length dd) (.slice ab y.acl.length ad))] w fun e w' => e = .returned (.bool (sameN x y)) ∧ Below w.heap.size w w' := by
  by_cases hxy : x = y
  · subst hxy
    rw [sameN_self]
    exact ssame_self x da aa db ab dc ac dd ad w hf hD hA hD' hA'
  rw [sameN_not hxy]
  by_cases q0 : x.data = y.data ∧ x.acl = y.acl ∧ x.path = y.path ∧ x.owner = y.owner
  rotate_left
  · exact ssame_p1 x y da aa db ab dc ac dd ad w hf hf' hD hA hD' hA' q0
  obtain ⟨h_data, h_acl, h_path, h_owner⟩ := q0
  by_cases q1 : x.czxid = y.czxid ∧ x.mzxid = y.mzxid ∧ x.pzxid = y.pzxid ∧ x.azxid = y.azxid
  rotate_left
  · exact ssame_p2 x y da aa db ab dc ac dd ad w hf hf' hD hA hD' hA' h_data h_acl h_path h_owner q1
  obtain ⟨h_czxid, h_mzxid, h_pzxid, h_azxid⟩ := q1
  by_cases q2 : x.qzxid = y.qzxid ∧ x.ctime = y.ctime ∧ x.mtime = y.mtime ∧ x.version = y.version
  rotate_left
  · exact ssame_p3 x y da aa db ab dc ac dd ad w hf hf' hD hA hD' hA' h_data h_acl h_path h_owner h_czxid h_mzxid h_pzxid h_azxid q2
  obtain ⟨h_qzxid, h_ctime, h_mtime, h_version⟩ := q2
  refine ssame_p4 x y da aa db ab dc ac dd ad w hf hf' hD hA hD' hA' h_data h_acl h_path h_owner h_czxid h_mzxid h_pzxid h_azxid h_qzxid h_ctime h_mtime h_version fun q => hxy ?_
  obtain ⟨h_creates, h_aversion, h_has, h_count, h_bytes⟩ := q
  cases x; cases y
  simp_all
end Go.Proofs.YthinpbdbhijbgaaGreatDoor
namespace Go.Proofs.YthinpbdbhijbgaaGreatDoor
open Go.RowKit
set_option maxHeartbeats 4000000
set_option maxRecDepth 100000

theorem wpList_load_row_g {P : Program} {ops : Array Oper} {rest : List Oper} {o : Oper} {a : Act} {Q : Exit → Act → World → Prop} {w : World} (hw : Region.wanted o (yielded ops a.tmps) = true) (ty : TypeId) (x : Operand) (ho : o.op = .load ty x) (g : Nat) (hx : a.eval x = .pointer (some ⟨g, 0, none⟩)) (t : TypeId) (cs : Array Value) (fr : Nat × Nat) (d : TypeDesc) (hg : w.heap[g]? = some (.cells cs t fr))
    (hu : P.underlying ty = some d) (hd : (match d with | .struct _ | .array _ _ => true | _ => false) = true) (hi : (P.info? ty).map (·.size) = some cs.size)
    (hK : wpList P ops Q rest (a.put o.dst (.agg cs)) w) : wpList P ops Q (o :: rest) a w := by
  rw [wpList, if_pos hw]
  exact .inl (wp_value (ex_load_row ho g hx t cs fr d hg hu hd hi) hK)

end Go.Proofs.YthinpbdbhijbgaaGreatDoor
namespace Go.Proofs.YthinpbdbhijbgaaGreatDoor
open Go.RowKit Go.Sort
set_option maxHeartbeats 8000000
set_option maxRecDepth 100000

/-- A node that is told as new is in the tree, just so. -/
def G1 (M I : List (Key × Nd)) (k : Key) : Prop := ∃ n y, mget I k = some n ∧ mget M k = some y ∧ sameN y n = true
/-- A node that is told as old is not in the tree, or is told as new, too. -/
def G2 (M I : List (Key × Nd)) (k : Key) : Prop := ¬ ((mget M k).isSome = true ∧ (mget I k).isSome = false)
def turnOk (M : List (Key × Nd)) (old now : List Nd) : Prop := dupB old = false ∧ dupB now = false ∧ (∀ k n, mget (pairM now) k = some n → G1 M (pairM now) k) ∧ ∀ k n, mget (pairM old) k = some n → G2 M (pairM now) k
/-- What Turn answers. -/
noncomputable def turnP (M : List (Key × Nd)) (old now : List Nd) : Int := @ite _ (turnOk M old now) (Classical.propDecidable _) 0 1
theorem turnP_yes {M : List (Key × Nd)} {old now : List Nd} (h : turnOk M old now) : turnP M old now = 0 := by unfold turnP; rw [if_pos h]
theorem turnP_no {M : List (Key × Nd)} {old now : List Nd} (h : ¬ turnOk M old now) : turnP M old now = 1 := by unfold turnP; rw [if_neg h]

/-- The rounds of a range that only looks. -/
def LT (b r : Nat) (mb : List (Key × Value)) (G : Key → Prop) (w wr : World) : Prop := ∃ (left : Lit → Bool) (cnt : Nat), Hid (wr.ranges Tryz.prog 9 Rv b r mb.length (kvD mb) left cnt) ∧ Hid (∀ k v, mget mb k = some v → left (.string k) = false → G k) ∧ Hid (Ext w wr)
theorem lt_start {b r : Nat} {mb : List (Key × Value)} {G : Key → Prop} {w wr : World} {cnt : Nat} (h : wr.ranges Tryz.prog 9 Rv b r mb.length (kvD mb) (Maps.has (kvD mb)) cnt) (hE : Ext w wr) : LT b r mb G w wr :=
  ⟨_, cnt, h, (fun k v hk hl => by rw [kvD_has, hk] at hl; cases hl), hE⟩
theorem lt_step {mb : List (Key × Value)} {G : Key → Prop} {left : Lit → Bool} {p : ByteArray} (h : ∀ k v, mget mb k = some v → left (.string k) = false → G k) (hp : G p.data.toList) :
    ∀ k v, mget mb k = some v → (left (.string k) && !(Lit.string k).sameKey (.string p.data.toList)) = false → G k := fun k v hk hl => by
  have hsame : (Lit.string k).sameKey (.string p.data.toList) = (k == p.data.toList) := rfl
  rw [hsame, Bool.and_eq_false_iff, Bool.not_eq_false'] at hl
  rcases hl with hl | hl
  · exact h k v hk hl
  · have : k = p.data.toList := by simpa using hl
    rw [this]; exact hp
theorem PairAt.imp {S S' : Nat → Prop} {w : World} {b : Nat} {M : List (Key × Nd)} (h : PairAt S w b M) (hS : ∀ k, S k → S' k) : PairAt S' w b M := by
  obtain ⟨m, h1, h2⟩ := h
  exact ⟨m, h1, h2.imp fun _ _ _ hv => hv.imp hS fun _ _ _ _ h => h⟩

def wvM (M : List (Key × Nd)) (p : ByteArray) : Int × Int := (((undK M p).length : Nat), ((bytesK M (undK M p) : Nat)))
def TurnQ (bb bm : Nat) (M : List (Key × Nd)) (old now : List Nd) (J3 : (Lit → Bool) → Bk → Prop) (w : World) (e : Ending) (w' : World) : Prop :=
  e = .returned (.int .i64 (turnP M old now)) ∧ ((¬ turnOk M old now ∧ Ext w w') ∨ (turnOk M old now ∧ Mod (· = bm) w w' ∧ ∃ U' left, (∀ k, left k = false) ∧ J3 left U' ∧ BookAt w' bb bm (bookV U')))

theorem qturn_any (S : Nat → Prop) (bt bb bm N : Nat) (M : List (Key × Nd)) (U : Bk) (old now : List Nd) (oa na : Option Addr) (oc nc : Nat) (w : World) (hT : TreeAt S w bt M N) (hc : Clo M) (hl : M.length * 168 ≤ 140737488355328) (hB : BookAt w bb bm (bookV U)) (hSb : ¬ S bm)
    (hO : NdsAt w.heap.size w oa old) (hN : NdsAt w.heap.size w na now) (hfO : ∀ n ∈ old, Fit n) (hfN : ∀ n ∈ now, Fit n) (hlO : old.length * 168 ≤ 140737488355328) (hlN : now.length * 168 ≤ 140737488355328) (hlU : U.length ≤ 140737488355328)
    {J1 J2 J3 : (Lit → Bool) → Bk → Prop} (hJ : turnOk M old now → SetJ (pairM old) (pairM now) (wvM M) U J1 J2 J3) :
    Calls Tryz.prog 39 #[.pointer (some ⟨bb, 0, none⟩), .pointer (some ⟨bt, 0, none⟩), .slice oa old.length oc, .slice na now.length nc] w (TurnQ bb bm M old now J3 w) := by
  have hbml := hB.2.lt
  have C1 := Lib.hid (paired_any old oa oc w hO hlO fun n hn => (hfO n hn).path)
  have HT := Lib.hid hT
  have HC := Lib.hid hc
  have HB := Lib.hid hB
  have HN := Lib.hid hN
  have HFO := Lib.hid hfO
  have HFN := Lib.hid hfN
  have HJ := Lib.hid hJ
  have HSB := Lib.hid hSb
  clear hT hc hB hO hN hfO hfN hJ hSb
  go_enter Tryz.func39, Tryz.ntmps39
  go_wp2_with fail
  refine C1.out.mono ?_
  rintro e W1 ⟨hE1, hc1⟩
  have C2 := Lib.hid (paired_any now na nc W1 (HN.out.ext hE1) hlN fun n hn => (HFN.out n hn).path)
  have HE1 := Lib.hid hE1
  have hz1 := hE1.size
  clear C1 hE1
  rcases hc1 with ⟨hd, rfl⟩ | ⟨hd, bp, rfl, hbp, hP⟩
  · have hno : ¬ turnOk M old now := fun h => by rw [h.1] at hd; cases hd
    clear hd
    go_wp2_with fail
    refine C2.out.mono ?_
    rintro e W2 ⟨hE2, hc2⟩
    have hfin : TurnQ bb bm M old now J3 w (.returned (.int .i64 1)) W2 := ⟨by rw [turnP_no hno], .inl ⟨hno, HE1.out.trans hE2⟩⟩
    have HFIN := Lib.hid hfin
    clear hfin hE2 C2 hno
    rcases hc2 with ⟨_, rfl⟩ | ⟨_, bi, rfl, _, _⟩
    · go_wp2
      go_ret
      exact HFIN.out
    · go_wp2
      go_ret
      exact HFIN.out
  have HP := Lib.hid hP
  clear hP
  go_wp2_with fail
  refine C2.out.mono ?_
  rintro e W2 ⟨hE2, hc2⟩
  have HE2 := Lib.hid hE2
  have hz2 := hE2.size
  clear hE2 C2
  rcases hc2 with ⟨hd2, rfl⟩ | ⟨hd2, bi, rfl, hbi, hI⟩
  · have hno : ¬ turnOk M old now := fun h => by rw [h.2.1] at hd2; cases hd2
    have hfin : TurnQ bb bm M old now J3 w (.returned (.int .i64 1)) W2 := ⟨by rw [turnP_no hno], .inl ⟨hno, HE1.out.trans HE2.out⟩⟩
    have HFIN := Lib.hid hfin
    clear hfin hno hd hd2
    go_wp2
    go_ret
    exact HFIN.out
  have hPI : PairAt (fun k => k < W2.heap.size) W2 bi (pairM now) := hI.imp fun k (hk : k < W1.heap.size) => by omega
  have hPP : PairAt (fun k => k < W2.heap.size) W2 bp (pairM old) := (HP.out.ext HE2.out).imp fun k (hk : k < w.heap.size) => by omega
  have HPI := Lib.hid hPI
  have HPP := Lib.hid hPP
  obtain ⟨mi, hmi, hri⟩ := hPI
  obtain ⟨mp, hmp, hrp⟩ := hPP
  have HRI := Lib.hid hri
  have HRP := Lib.hid hrp
  have HMP := Lib.hid hmp
  have hil := hmi.lt
  have hpl := hmp.lt
  have hEw := HE1.out.trans HE2.out
  have HEW := Lib.hid hEw
  have HD := Lib.hid (And.intro hd hd2)
  have hfI : ∀ x ∈ pairM now, Fit x.2 ∧ x.1 = keyN x.2 := fun x hx => ⟨HFN.out _ (pairM_mem now x hx).1, (pairM_mem now x hx).2⟩
  have hfP : ∀ x ∈ pairM old, Fit x.2 ∧ x.1 = keyN x.2 := fun x hx => ⟨HFO.out _ (pairM_mem old x hx).1, (pairM_mem old x hx).2⟩
  have HFI := Lib.hid hfI
  have HFP := Lib.hid hfP
  clear hI hri hrp hmp hEw hd hd2 HP hfI hfP HN
  go_wp2_with (at_range; refine wpList_range_s _ rfl _ 120 rfl 9 44 strT Tryz.underlying120 bi mi rfl hmi ?_; intro w0 hrg0 hg0 hs0)
  go_frame
  have hE0 : Ext W2 w0 := ⟨hg0.os, hg0.tape, hg0.output, hg0.size, fun k hk => hg0.block k hk (by simp)⟩
  have HL0 := Lib.hid (lt_start (G := G1 M (pairM now)) hrg0 hE0)
  clear hrg0 hg0 hs0 hE0 hmi
  go_loopw [] (fun wr => LT bi W2.heap.size mi (G1 M (pairM now)) W2 wr) (fun wr => wr.rangeLeft bi W2.heap.size)
  case atStart => exact HL0.out
  case round =>
    obtain ⟨left, cnt, HRG, HG, HE⟩ := hrel
    clear HL0
    go_wp2_with (at_next; refine wpList_next_s2 _ rfl _ rfl 9 strT bi W2.heap.size _ mi left cnt rfl HRG.out ?_ ?_)
    · intro hl0
      have hall : ∀ k n, mget (pairM now) k = some n → G1 M (pairM now) k := fun k n hk => by
        rcases HRI.out.get k with ⟨h1, _⟩ | ⟨y, v, _, h2, _⟩
        · rw [h1] at hk; cases hk
        · exact HG.out k v h2 (hl0 _)
      have HALL := Lib.hid hall
      have hmp : SMap Tryz.prog 9 wr bp mp := HMP.out.keep (HE.out.block bp hpl)
      have hzr := HE.out.size
      clear hall HRG HG hl0
      go_wp2_with (at_range; refine wpList_range_s _ rfl _ 120 rfl 9 44 strT Tryz.underlying120 bp mp rfl hmp ?_; intro w0 hrg0 hg0 hs0)
      go_frame
      have hE0 : Ext W2 w0 := HE.out.trans ⟨hg0.os, hg0.tape, hg0.output, hg0.size, fun k hk => hg0.block k hk (by simp)⟩
      have HL0 := Lib.hid (lt_start (G := G2 M (pairM now)) hrg0 hE0)
      obtain ⟨r2, hr2⟩ : ∃ r2, r2 = wr.heap.size := ⟨_, rfl⟩
      rw [← hr2] at HL0 ⊢
      rw [← hr2] at hzr
      clear hrg0 hg0 hs0 hE0 hmp HE hr2
      go_loopw [] (fun wr => LT bp r2 mp (G2 M (pairM now)) W2 wr) (fun wr => wr.rangeLeft bp r2)
      case atStart => exact HL0.out
      case round =>
        obtain ⟨left, cnt, HRG, HG, HE⟩ := hrel
        clear HL0
        go_wp2_with (at_next; refine wpList_next_s2 _ rfl _ rfl 9 strT bp r2 _ mp left cnt rfl HRG.out ?_ ?_)
        · intro hl0
          have hall2 : ∀ k n, mget (pairM old) k = some n → G2 M (pairM now) k := fun k n hk => by
            rcases HRP.out.get k with ⟨h1, _⟩ | ⟨y, v, _, h2, _⟩
            · rw [h1] at hk; cases hk
            · exact HG.out k v h2 (hl0 _)
          have hok : turnOk M old now := ⟨HD.out.1, HD.out.2, HALL.out, hall2⟩
          have hEw := HEW.out.trans HE.out
          have hTr := HT.out.ext hEw
          have hlen : (pairM now).length ≤ now.length := by
            have key : ∀ (l : List Nd) (A : List (Key × Nd)), (l.foldl (fun M n => mput M (keyN n) n) A).length ≤ A.length + l.length := by
              intro l
              induction l with
              | nil => exact fun A => Nat.le_refl _
              | cons n l ih =>
                intro A
                have h3 := ih (mput A (keyN n) n)
                have h4 := mput_le A (keyN n) n
                show (List.foldl (fun M n => mput M (keyN n) n) (mput A (keyN n) n) l).length ≤ _
                rw [List.length_cons]
                omega
            have h3 := key now []
            have h5 : ([] : List (Key × Nd)).length = 0 := rfl
            unfold pairM
            omega
          have CS := Lib.hid (qsettle_any (fun k => k < W2.heap.size) (some ⟨bt, 0, none⟩) bb bm bp bi U (pairM old) (pairM now) (wvM M) wr (HB.out.ext hEw) (HPP.out.ext HE.out) (HPI.out.ext HE.out) (by omega) (by omega) (fun k hk => Nat.lt_of_lt_of_le hk HE.out.size) HFP.out HFI.out (by omega) (HJ.out hok)
            (fun W p n hM hg => by
              obtain ⟨n', y, h1, h2, _⟩ := HALL.out _ _ hg
              have hTW : TreeAt S W bt M N := hTr.keep (fun k hk => by
                  have hk' := hTr.bound k hk
                  rw [Array.getElem?_eq_getElem hk']
                  exact hM.same k _ (Array.getElem?_eq_getElem hk') (.inl fun e => HSB.out (e ▸ hk))) (fun _ h => h) (fun k hk => Nat.lt_of_lt_of_le (hTr.bound k hk) hM.size) (Nat.le_refl _)
              obtain ⟨hfn, hkn⟩ := HFI.out _ (mget_some_mem hg)
              have hpp : p.size ≤ 9223372036854775800 := by
                have : p = n.path := ba_ext hkn
                rw [this]; exact hfn.path
              refine (weigh_any S W bt M N hTW HC.out p (by unfold maxLen; omega) hl).mono fun e w' h => ?_
              obtain ⟨rfl, h3⟩ := h
              rw [h2]
              exact ⟨rfl, h3⟩))
          have hpy := turnP_yes hok
          have HPY := Lib.hid hpy
          have HOK := Lib.hid hok
          have HEWr := Lib.hid hEw
          clear hall2 hok hEw hTr HRG HG hl0 hpy HE
          go_wp2_with fail
          refine CS.out.mono ?_
          rintro e X ⟨rfl, hex, hMX⟩
          have hfin : TurnQ bb bm M old now J3 w (.returned (.int .i64 0)) X := ⟨by rw [HPY.out], .inr ⟨HOK.out, (Mod.of_ext HEWr.out).trans hMX, hex⟩⟩
          have HFIN := Lib.hid hfin
          clear hfin hex hMX CS
          go_wp2
          go_ret
          exact HFIN.out
        · intro p v w1 cnt1 hps hlf hmg hrg1 hlt hg1 hs1 hen
          obtain ⟨n, hIn, hNd⟩ : ∃ n, mget (pairM old) p.data.toList = some n ∧ NdS (fun k => k < W2.heap.size) W2 v n := by
            rcases HRP.out.get p.data.toList with ⟨_, h2⟩ | ⟨y, u, h1, h2, h3⟩
            · rw [h2] at hmg; cases hmg
            · rw [h2] at hmg; cases hmg; exact ⟨y, h1, h3⟩
          obtain ⟨hfn, hkn⟩ := HFP.out _ (mget_some_mem hIn)
          have hpp : p.size ≤ 9223372036854775800 := by
            have : p = n.path := ba_ext hkn
            rw [this]; exact hfn.path
          have hE1 : Ext W2 w1 := HE.out.trans' ⟨hg1.os, hg1.tape, hg1.output, hg1.size, fun k hk => hg1.block k (Nat.lt_of_lt_of_le hk HE.out.size) (fun e => by have := Option.some.inj e; omega)⟩
          obtain ⟨v2, hv2, hlk, _⟩ := (HPI.out.ext hE1).look p hps
          have hzw := hE1.size
          obtain ⟨d1, e1, a1, f1, X3, e0, hset3, hbx3, hEX3, _, _⟩ := box_node hv2 fun k (hk : k < W2.heap.size) => by omega
          subst e0
          have hEw3 := HEW.out.trans (hE1.trans hEX3)
          have CG := Lib.hid (tget_any _ X3 bt M _ (HT.out.ext hEw3) p hps)
          have hrg3 := hrg1.kept ⟨hEX3.os, hEX3.tape, hEX3.output, hEX3.size, fun k hk _ => hEX3.block k hk⟩ (row := none) (by simp) (by simp)
          have HSET3 := Lib.hid hset3
          have HNEW3 := Lib.hid (heap_alloc_new w1 (.cells zeroNd 44))
          have HE3 := Lib.hid (hE1.trans hEX3)
          have HRG3 := Lib.hid hrg3
          have hg2 : G2 M (pairM now) p.data.toList ↔ ¬ ((mget M p.data.toList).isSome = true ∧ (mget (pairM now) p.data.toList).isSome = false) := Iff.rfl
          have HG2 := Lib.hid hg2
          have hno : ¬ G2 M (pairM now) p.data.toList → ¬ turnOk M old now := fun h h2 => h (h2.2.2.2 _ _ hIn)
          have HNO := Lib.hid hno
          generalize (mget (pairM now) p.data.toList).getD zeroN = y at *
          generalize (mget (pairM now) p.data.toList).isSome = st at *
          unfold ndC at HSET3 hlk
          unfold zeroNd at HSET3 HNEW3
          clear hg2 hno hset3 hbx3 hEX3 hrg1 hrg3 hE1 hv2 hEw3 hIn hmg hg1 hs1 hNd hkn hfn HE
          go_wp2_with (refine wpList_store_row rfl 44 (.tmp 18) (.tmp 75) rfl w1.heap.size _ rfl rfl 44 _ HNEW3.out sizeNd rfl (cells_node y d1 a1 _ _ e1 f1) ?_; rw [HSET3.out])
          refine CG.out.mono ?_
          rintro e X4 ⟨v4, rfl, hv4, hE4⟩
          obtain ⟨d2, e2, a2, f2, X5, e0, hset5, hbx5, hEX5, _, _⟩ := box_node hv4 fun b hb => hb.2
          subst e0
          have hE35 := hE4.trans hEX5
          have HSET5 := Lib.hid hset5
          have HNEW5 := Lib.hid (heap_alloc_new X4 (.cells zeroNd 44))
          have HRG5 := Lib.hid (HRG3.out.kept ⟨hE35.os, hE35.tape, hE35.output, hE35.size, fun k hk _ => hE35.block k hk⟩ (row := none) (by simp) (by simp))
          have HE5 := Lib.hid (HE3.out.trans hE35)
          generalize (mget M p.data.toList).getD zeroN = z at *
          generalize (mget M p.data.toList).isSome = th at *
          unfold ndC at HSET5 ⊢
          unfold zeroNd at HSET5 HNEW5
          clear CG hset5 hbx5 hEX5 hE35 hE4 hv4 HRG3 HE3 HSET3 HNEW3
          by_cases hbad : th = true ∧ st = false
          · obtain ⟨rfl, rfl⟩ := hbad
            have hn := HNO.out fun h => HG2.out.1 h ⟨rfl, rfl⟩
            have hfin : TurnQ bb bm M old now J3 w (.returned (.int .i64 1)) X5 := ⟨by rw [turnP_no hn], .inl ⟨hn, HEW.out.trans HE5.out⟩⟩
            have HFIN := Lib.hid hfin
            clear hfin hn HNO HG2
            go_wp2_with (refine wpList_store_row rfl 44 (.tmp 20) (.tmp 81) rfl X4.heap.size _ rfl rfl 44 _ HNEW5.out sizeNd rfl (cells_node z d2 a2 _ _ e2 f2) ?_; rw [HSET5.out])
            go_ret
            exact HFIN.out
          · have hgk := lt_step HG.out (HG2.out.2 hbad)
            have HGK := Lib.hid hgk
            clear hgk HNO HG2
            have hb1 : (th && !st) = false := by
              cases th <;> cases st <;> simp_all
            clear hbad
            cases th with
            | false =>
              go_wp2_with (refine wpList_store_row rfl 44 (.tmp 20) (.tmp 81) rfl X4.heap.size _ rfl rfl 44 _ HNEW5.out sizeNd rfl (cells_node z d2 a2 _ _ e2 f2) ?_; rw [HSET5.out])
              go_roundw
              case rel => exact ⟨_, cnt1, HRG5.out, HGK.out, HE5.out⟩
              case measure => rw [HRG5.out.left_eq, HRG.out.left_eq]; exact hlt
            | true =>
              obtain rfl : st = true := by simpa using hb1
              go_wp2_with (refine wpList_store_row rfl 44 (.tmp 20) (.tmp 81) rfl X4.heap.size _ rfl rfl 44 _ HNEW5.out sizeNd rfl (cells_node z d2 a2 _ _ e2 f2) ?_; rw [HSET5.out])
              go_roundw
              case rel => exact ⟨_, cnt1, HRG5.out, HGK.out, HE5.out⟩
              case measure => rw [HRG5.out.left_eq, HRG.out.left_eq]; exact hlt
    · intro p v w1 cnt1 hps hlf hmg hrg1 hlt hg1 hs1 hen
      obtain ⟨n, hIn, hNd⟩ : ∃ n, mget (pairM now) p.data.toList = some n ∧ NdS (fun k => k < W2.heap.size) W2 v n := by
        rcases HRI.out.get p.data.toList with ⟨_, h2⟩ | ⟨y, u, h1, h2, h3⟩
        · rw [h2] at hmg; cases hmg
        · rw [h2] at hmg; cases hmg; exact ⟨y, h1, h3⟩
      obtain ⟨hfn, hkn⟩ := HFI.out _ (mget_some_mem hIn)
      have hfn : Fit n := hfn
      have hE1 : Ext W2 w1 := HE.out.trans' ⟨hg1.os, hg1.tape, hg1.output, hg1.size, fun k hk => hg1.block k (Nat.lt_of_lt_of_le hk HE.out.size) (fun e => by have := Option.some.inj e; omega)⟩
      have hzw := hE1.size
      have hNd1 : NdS (fun k => k < W2.heap.size) w1 v n := NdS.imp hNd (fun _ h => h) fun b o u _ hu => (hE1.cell (World.block_lt_of_cell? _ _ hu)).trans hu
      obtain ⟨d1, e1, a1, f1, X3, e0, hset3, hbx3, hEX3, hDn, hAn⟩ := box_node hNd1 fun k (hk : k < W2.heap.size) => by omega
      subst e0
      have hEw3 := HEW.out.trans (hE1.trans hEX3)
      have CG := Lib.hid (tget_any _ X3 bt M _ (HT.out.ext hEw3) p hps)
      have hrg3 := hrg1.kept ⟨hEX3.os, hEX3.tape, hEX3.output, hEX3.size, fun k hk _ => hEX3.block k hk⟩ (row := none) (by simp) (by simp)
      have HSET3 := Lib.hid hset3
      have HNEW3 := Lib.hid (heap_alloc_new w1 (.cells zeroNd 44))
      have HB3 := Lib.hid hbx3
      have HE3 := Lib.hid (hE1.trans hEX3)
      have HRG3 := Lib.hid hrg3
      have HDN := Lib.hid hDn
      have HAN := Lib.hid hAn
      have HIN := Lib.hid hIn
      have HFNn := Lib.hid hfn
      have hzx3 := hEX3.size
      have hX3 : w1.heap.size < X3.heap.size := (Array.getElem?_eq_some_iff.1 hbx3).1
      unfold ndC at HSET3 hen
      unfold zeroNd at HSET3 HNEW3
      clear hset3 hbx3 hEX3 hrg1 hrg3 hE1 hEw3 hIn hmg hg1 hs1 hNd hNd1 hkn hfn HE hDn hAn
      go_wp2_with (refine wpList_store_row rfl 44 (.tmp 14) (.tmp 50) rfl w1.heap.size _ rfl rfl 44 _ HNEW3.out sizeNd rfl (cells_node n d1 a1 _ _ e1 f1) ?_; rw [HSET3.out])
      refine CG.out.mono ?_
      rintro e X4 ⟨v4, rfl, hv4, hE4⟩
      have hE4 : Ext X3 X4 := hE4
      obtain ⟨d2, e2, a2, f2, X5, e0, hset5, hbx5, hEX5, hDz, hAz⟩ := box_node hv4 fun b hb => hb.2
      subst e0
      have hE35 := hE4.trans hEX5
      have hfz := HT.out.ok.fit p.data.toList
      have HSET5 := Lib.hid hset5
      have HNEW5 := Lib.hid (heap_alloc_new X4 (.cells zeroNd 44))
      have HRG5 := Lib.hid (HRG3.out.kept ⟨hE35.os, hE35.tape, hE35.output, hE35.size, fun k hk _ => hE35.block k hk⟩ (row := none) (by simp) (by simp))
      have HE5 := Lib.hid (HE3.out.trans hE35)
      have HB5 := Lib.hid ((hE35.block _ hX3).trans HB3.out)
      have HB6 := Lib.hid hbx5
      have hzx4 := hE4.size
      cases hg : mget M p.data.toList with
      | none =>
        have hn : ¬ turnOk M old now := fun h => by
          obtain ⟨n', y, _, h2, _⟩ := h.2.2.1 _ _ HIN.out
          rw [hg] at h2; cases h2
        have hfin : TurnQ bb bm M old now J3 w (.returned (.int .i64 1)) X5 := ⟨by rw [turnP_no hn], .inl ⟨hn, HEW.out.trans HE5.out⟩⟩
        have HFIN := Lib.hid hfin
        rw [hg] at HSET5
        simp only [Option.getD_none, Option.isSome_none] at HSET5 ⊢
        unfold ndC at HSET5 ⊢
        unfold zeroNd at HSET5 HNEW5
        clear hfin hn hg CG hset5 hbx5 hEX5 hE35 hE4 hv4 HRG3 HE3 HSET3 HNEW3 hDz hAz hfz HB5 HB6 HB3
        go_wp2_with (refine wpList_store_row rfl 44 (.tmp 15) (.tmp 55) rfl X4.heap.size _ rfl rfl 44 _ HNEW5.out sizeNd rfl (cells_node zeroN d2 a2 _ _ e2 f2) ?_; rw [HSET5.out])
        go_ret
        exact HFIN.out
      | some z =>
        rw [hg] at HSET5 HB6 hDz hAz hfz
        simp only [Option.getD_some, Option.isSome_some] at HSET5 HB6 hDz hAz hfz ⊢
        have CS := Lib.hid (ssame_any z n d2 a2 d1 a1 e2 f2 e1 f1 X5 hfz HFNn.out hDz hAz (HDN.out.ext hE35) (HAN.out.ext hE35))
        unfold ndC at HSET5 HB5 HB6 CS ⊢
        unfold zeroNd at HSET5 HNEW5
        have HGM := Lib.hid hg
        clear hg CG hset5 hbx5 hEX5 hE35 hE4 hv4 HRG3 HE3 HSET3 HNEW3 hDz hAz hfz HB3
        go_wp2_with (first | (refine wpList_store_row rfl 44 (.tmp 15) (.tmp 55) rfl X4.heap.size _ rfl rfl 44 _ HNEW5.out sizeNd rfl (cells_node z d2 a2 _ _ e2 f2) ?_; rw [HSET5.out]) | (refine wpList_load_row rfl 44 (.tmp 15) rfl X4.heap.size rfl 44 _ (0, 0) _ HB6.out Tryz.underlying44 rfl sizeNd ?_) | (refine wpList_load_row rfl 44 (.tmp 14) rfl w1.heap.size rfl 44 _ (0, 0) _ HB5.out Tryz.underlying44 rfl sizeNd ?_) | (refine wpList_load_row_g (by rfl) 44 (.tmp 15) rfl X4.heap.size rfl 44 _ (0, 0) _ HB6.out Tryz.underlying44 rfl sizeNd ?_) | (refine wpList_load_row_g (by rfl) 44 (.tmp 14) rfl w1.heap.size rfl 44 _ (0, 0) _ HB5.out Tryz.underlying44 rfl sizeNd ?_))
        refine CS.out.mono ?_
        rintro e X6 ⟨rfl, hE6⟩
        have hE6 : Ext X5 X6 := hE6
        have HRG6 := Lib.hid (HRG5.out.kept ⟨hE6.os, hE6.tape, hE6.output, hE6.size, fun k hk _ => hE6.block k hk⟩ (row := none) (by simp) (by simp))
        have HE6 := Lib.hid (HE5.out.trans hE6)
        clear CS hE6 HRG5 HE5 HB5 HB6
        cases hsm : sameN z n with
        | true =>
          have hgk := lt_step HG.out (show G1 M (pairM now) p.data.toList from ⟨n, z, HIN.out, HGM.out, hsm⟩)
          have HGK := Lib.hid hgk
          clear hgk hsm
          go_wp2
          go_roundw
          case rel => exact ⟨_, cnt1, HRG6.out, HGK.out, HE6.out⟩
          case measure => rw [HRG6.out.left_eq, HRG.out.left_eq]; exact hlt
        | false =>
          have hn : ¬ turnOk M old now := fun h => by
            obtain ⟨n', y, h1, h2, h3⟩ := h.2.2.1 _ _ HIN.out
            rw [HIN.out] at h1
            rw [HGM.out] at h2
            cases h1; cases h2
            rw [hsm] at h3; cases h3
          have hfin : TurnQ bb bm M old now J3 w (.returned (.int .i64 1)) X6 := ⟨by rw [turnP_no hn], .inl ⟨hn, HEW.out.trans HE6.out⟩⟩
          have HFIN := Lib.hid hfin
          clear hfin hn hsm
          go_wp2
          go_ret
          exact HFIN.out
end Go.Proofs.YthinpbdbhijbgaaGreatDoor
namespace Go.Proofs.YthinpbdbhijbgaaGreatDoor
open Go.RowKit Go.Sort
set_option maxHeartbeats 8000000
set_option maxRecDepth 100000

theorem pair_get {L : List Nd} (hd : dupB L = false) {n : Nd} (hn : n ∈ L) : mget (pairM L) (keyN n) = some n := by
  obtain ⟨m, hm⟩ := Option.ne_none_iff_exists'.1 (pairM_there hn)
  obtain ⟨h1, h2⟩ := pairM_mem _ _ (mget_some_mem hm)
  have h1 : m ∈ L := h1
  have hp : m.path = n.path := (keyN_inj h2).symm
  obtain ⟨i, hi, ei⟩ := List.getElem_of_mem h1
  obtain ⟨j, hj, ej⟩ := List.getElem_of_mem hn
  by_cases e : i = j
  · subst e
    rw [hm, ← ei, ej]
  · exfalso
    rcases Nat.lt_or_gt_of_ne e with h | h
    · have := dup_hit (L := L) hj h (by rw [ei, ej, hp])
      rw [hd] at this; cases this
    · have := dup_hit (L := L) hi h (by rw [ei, ej, hp])
      rw [hd] at this; cases this
def goodN (M : List (Key × Nd)) (n : Nd) : Prop := ∃ y, mget M (keyN n) = some y ∧ sameN y n = true
def oldN (M : List (Key × Nd)) (now : List Nd) (n : Nd) : Prop := ¬ ((mget M (keyN n)).isSome = true ∧ ∀ m ∈ now, m.path ≠ n.path)
/-- The document's words say the same. -/
theorem ok_iff (M : List (Key × Nd)) (old now : List Nd) : turnOk M old now ↔ dupB old = false ∧ dupB now = false ∧ (∀ n ∈ now, goodN M n) ∧ ∀ n ∈ old, oldN M now n := by
  unfold turnOk
  constructor
  · rintro ⟨h1, h2, h3, h4⟩
    refine ⟨h1, h2, fun n hn => ?_, fun n hn => ?_⟩
    · obtain ⟨n', y, e1, e2, e3⟩ := h3 _ _ (pair_get h2 hn)
      rw [pair_get h2 hn] at e1
      cases e1
      exact ⟨y, e2, e3⟩
    · rintro ⟨e1, e2⟩
      refine h4 _ _ (pair_get h1 hn) ⟨e1, ?_⟩
      cases hg : mget (pairM now) (keyN n) with
      | none => rfl
      | some m =>
        obtain ⟨h5, h6⟩ := pairM_mem _ _ (mget_some_mem hg)
        exact absurd (keyN_inj h6).symm (e2 m h5)
  · rintro ⟨h1, h2, h3, h4⟩
    refine ⟨h1, h2, fun k n hk => ?_, fun k n hk => ?_⟩
    · obtain ⟨h5, h6⟩ := pairM_mem _ _ (mget_some_mem hk)
      obtain ⟨y, e1, e2⟩ := h3 n h5
      have h6 : k = keyN n := h6
      rw [← h6] at e1
      exact ⟨n, y, hk, e1, e2⟩
    · obtain ⟨h5, h6⟩ := pairM_mem _ _ (mget_some_mem hk)
      have h6 : k = keyN n := h6
      rintro ⟨e1, e2⟩
      refine h4 n h5 ⟨by rw [← h6]; exact e1, fun m hm hp => ?_⟩
      have h7 := pair_get h2 hm
      have h8 : keyN m = k := by rw [h6]; unfold keyN; rw [hp]
      rw [h8] at h7
      rw [h7] at e2
      cases e2

theorem rturn_any (br : Nat) (M : List (Key × Nd)) (old now : List Nd) (oa na : Option Addr) (oc nc : Nat) (w : World) (hR : RT w br (nds M)) (hM : MOk M)
    (hO : NdsAt w.heap.size w oa old) (hN : NdsAt w.heap.size w na now) (hfO : ∀ n ∈ old, Fit n) (hfN : ∀ n ∈ now, Fit n) (hlO : old.length * 168 ≤ 140737488355328) (hlN : now.length * 168 ≤ 140737488355328) :
    Calls Tryz.prog 40 #[.pointer (some ⟨br, 0, none⟩), .slice oa old.length oc, .slice na now.length nc] w fun e w' => e = .returned (.int .i64 (turnP M old now)) ∧ Ext w w' := by
  have C1 := Lib.hid (twice_any old oa oc w hO hlO)
  have HR := Lib.hid hR
  have HM := Lib.hid hM
  have HO := Lib.hid hO
  have HN := Lib.hid hN
  have HFO := Lib.hid hfO
  have HFN := Lib.hid hfN
  have hiff := ok_iff M old now
  have HIFF := Lib.hid hiff
  have hyes := fun h => turnP_yes (M := M) (old := old) (now := now) h
  have hno := fun h => turnP_no (M := M) (old := old) (now := now) h
  have HYES := Lib.hid hyes
  have HNO := Lib.hid hno
  generalize turnP M old now = tp at *
  clear hR hM hO hN hfO hfN hiff hyes hno
  go_enter Tryz.func40, Tryz.ntmps40
  go_wp2_with fail
  refine C1.out.mono ?_
  rintro e W1 ⟨rfl, hE1⟩
  have hE1 : Ext w W1 := hE1
  have HE1 := Lib.hid hE1
  have C2 := Lib.hid (twice_any now na nc W1 (HN.out.ext hE1) hlN)
  clear C1 hE1
  cases hd : dupB old with
  | true =>
    have hn := HNO.out fun h => by have := (HIFF.out.1 h).1; rw [hd] at this; cases this
    subst hn
    clear hd C2
    go_wp2
    go_ret
    exact ⟨rfl, HE1.out⟩
  | false =>
    have HD1 := Lib.hid hd
    clear hd
    go_wp2_with fail
    refine C2.out.mono ?_
    rintro e W2 ⟨rfl, hE2⟩
    have hE2 : Ext W1 W2 := hE2
    have HE2 := Lib.hid (HE1.out.trans hE2)
    clear C2 hE2
    cases hd2 : dupB now with
    | true =>
      have hn := HNO.out fun h => by have := (HIFF.out.1 h).2.1; rw [hd2] at this; cases this
      subst hn
      clear hd2
      go_wp2
      go_ret
      exact ⟨rfl, HE2.out⟩
    | false =>
      have HD2 := Lib.hid hd2
      clear hd2
      go_wp2
      go_loopw [7] (fun i wr => ∃ k : Nat, k ≤ now.length ∧ i = .int .i64 k ∧ Hid (∀ (j : Nat) (hj : j < now.length), j < k → goodN M now[j]) ∧ Hid (Ext w wr)) (fun i _ => now.length - (intOf i).toNat)
      case atStart => exact ⟨0, Nat.zero_le _, rfl, fun j hj h => by omega, HE2.out⟩
      case round =>
        obtain ⟨k, hk, rfl, HG, HE⟩ := hrel
        by_cases hlt : k < now.length
        · obtain ⟨b, off, vv, rfl, hb, hv, hc⟩ := HN.out k now[k] (List.getElem?_eq_getElem hlt)
          have hfn := HFN.out now[k] (List.getElem_mem hlt)
          have hmem : now[k] ∈ now := List.getElem_mem hlt
          have hgk : goodN M now[k] → ∀ (j : Nat) (hj : j < now.length), j < k + 1 → goodN M now[j] := fun h j hj hl => by
            by_cases e : j = k
            · subst e; exact h
            · exact HG.out j hj (by omega)
          have HGK := Lib.hid hgk
          have HMEM := Lib.hid hmem
          clear hgk hmem
          generalize now[k] = n at *
          obtain ⟨da, dc, aa, ac, rfl, hD, hA⟩ := hv
          have hcw : ∀ j u, (ndC n (.slice da n.data.length dc) (.slice aa n.acl.length ac))[j]? = some u → wr.cell? ((⟨b, off + k * 17, none⟩ : Addr).add j) = some u := fun j u hj => by
            rw [addr_add, HE.out.cell (p := ⟨b, off + k * 17 + j, none⟩) hb]; exact hc j u hj
          have hp0 : wr.cell? ⟨b, off + k * 17, none⟩ = some (.string n.path) := by
            have h := hcw 0 (.string n.path) rfl
            simpa [addr_add] using h
          have CG := Lib.hid (rget_any wr br M (HR.out.ext HE.out) HM.out n.path hfn.path)
          have HCW := Lib.hid hcw
          have HD := Lib.hid hD
          have HA := Lib.hid hA
          have HFNn := Lib.hid hfn
          clear hc hcw hD hA hfn
          go_wp2_with fail
          refine CG.out.mono ?_
          rintro e X4 ⟨v4, rfl, hv4, hE4⟩
          have hE4 : Ext wr X4 := hE4
          obtain ⟨d2, e2, a2, f2, X5, e0, hset5, hbx5, hEX5, hDz, hAz⟩ := box_node hv4 fun b hb => hb.2
          subst e0
          have hE45 := hE4.trans hEX5
          have hfz := HM.out.fit n.path.data.toList
          have HSET5 := Lib.hid hset5
          have HNEW5 := Lib.hid (heap_alloc_new X4 (.cells zeroNd 44))
          have HE5 := Lib.hid (HE.out.trans hE45)
          have HB5 := Lib.hid hbx5
          have hcx : ∀ j u, (ndC n (.slice da n.data.length dc) (.slice aa n.acl.length ac))[j]? = some u → X5.cell? ((⟨b, off + k * 17, none⟩ : Addr).add j) = some u := fun j u hj => (hE45.cell (World.block_lt_of_cell? _ _ (HCW.out j u hj))).trans (HCW.out j u hj)
          have HCX := Lib.hid hcx
          cases hg : mget M n.path.data.toList with
          | none =>
            have hn := HNO.out fun h => by
              obtain ⟨y, h1, _⟩ := (HIFF.out.1 h).2.2.1 n HMEM.out
              rw [show keyN n = n.path.data.toList from rfl, hg] at h1
              cases h1
            rw [hg] at HSET5
            simp only [Option.getD_none, Option.isSome_none] at HSET5 ⊢
            unfold ndC at HSET5 ⊢
            unfold zeroNd at HSET5 HNEW5
            subst hn
            clear hg CG hset5 hbx5 hEX5 hE45 hE4 hv4 hDz hAz hfz HB5 HGK hcx HCX
            go_wp2_with (refine wpList_store_row rfl 44 (.tmp 8) (.tmp 37) rfl X4.heap.size _ rfl rfl 44 _ HNEW5.out sizeNd rfl (cells_node zeroN d2 a2 _ _ e2 f2) ?_; rw [HSET5.out])
            refine wp_region_P (by kernel_rfl) (region_sp 91 [.val (.bool false), .val (.bool true), .val (.bool true), .val (undef), .val (undef), .val (undef), .val (undef), .val (undef), .val (undef), .val (undef), .val (.bool true)] ?stay rfl (by decide) rfl ?duties ?rest)
            case duties =>
              refine ⟨?_, ?_, ?_, ?_, ?_, ?_, ?_, ?_, ?_, ?_, ?_, trivial⟩
              · refine duty_free rfl fun a w' hE hF hA => ?_
                have x1 := hF.slot 9 _ (by decide) rfl
                exact wp_value (w' := w') (ex_move rfl) ⟨_, rfl, x1, Ext.refl _⟩
              · refine duty_free rfl fun a w' hE hF hA => ?_
                have x1 := hA.pick 0 39 (.bool false) rfl rfl ⟨⟨0, .data⟩, by simp, rfl, rfl⟩ (fun u h => h)
                exact wp_value (w' := w') (v := .bool true) (by simp only [execOp, x1]; simp [go_sem]) ⟨_, rfl, rfl, Ext.refl _⟩
              · refine duty_free rfl fun a w' hE hF hA => ?_
                have x1 := hA.pick 1 40 (.bool true) rfl rfl ⟨⟨1, .data⟩, by simp, rfl, rfl⟩ (fun u h => h)
                exact wp_value (w' := w') (ex_move rfl) ⟨_, rfl, x1, Ext.refl _⟩
              · exact duty_no rfl (p := _) rfl (d := 41) rfl (show 41 < 91 by decide) ⟨⟨2, .guard⟩, by simp, rfl, rfl⟩ (fun v w h => h) fun w => rfl
              · exact duty_no rfl (p := _) rfl (d := 41) rfl (show 41 < 91 by decide) ⟨⟨2, .guard⟩, by simp, rfl, rfl⟩ (fun v w h => h) fun w => rfl
              · exact duty_no rfl (p := _) rfl (d := 41) rfl (show 41 < 91 by decide) ⟨⟨2, .guard⟩, by simp, rfl, rfl⟩ (fun v w h => h) fun w => rfl
              · exact duty_no rfl (p := _) rfl (d := 41) rfl (show 41 < 91 by decide) ⟨⟨2, .guard⟩, by simp, rfl, rfl⟩ (fun v w h => h) fun w => rfl
              · exact duty_no rfl (p := _) rfl (d := 41) rfl (show 41 < 91 by decide) ⟨⟨2, .guard⟩, by simp, rfl, rfl⟩ (fun v w h => h) fun w => rfl
              · exact duty_no rfl (p := _) rfl (d := 41) rfl (show 41 < 91 by decide) ⟨⟨2, .guard⟩, by simp, rfl, rfl⟩ (fun v w h => h) fun w => rfl
              · exact duty_no rfl (p := _) rfl (d := 41) rfl (show 41 < 91 by decide) ⟨⟨2, .guard⟩, by simp, rfl, rfl⟩ (fun v w h => h) fun w => rfl
              · refine duty_free rfl fun a w' hE hF hA => ?_
                have x1 := hA.pick 2 41 (.bool true) rfl rfl ⟨⟨2, .data⟩, by simp, rfl, rfl⟩ (fun u h => h)
                exact wp_value (w' := w') (ex_pick rfl x1) ⟨_, rfl, rfl, Ext.refl _⟩
            case stay => trivial
            case rest =>
              intro W8 hE8
              simp only [forS]
              have HE8 := Lib.hid (HE5.out.trans hE8)
              clear hE8 HE5
              simp only [filled, List.zip_cons_cons, List.zip_nil_left, List.foldl_cons, List.foldl_nil, Act.put, List.setIfInBounds_toArray, List.set_cons_succ, List.set_cons_zero]
              simp only [Exit.inBlock, Exit.then, Act.put]
              rename_i hK
              refine hK _ _ ?_
              clear hK
              go_wp2
              go_ret
              exact ⟨rfl, HE8.out⟩
          | some z =>
            rw [hg] at HSET5 HB5 hDz hAz hfz
            simp only [Option.getD_some, Option.isSome_some] at HSET5 HB5 hDz hAz hfz ⊢
            have CS : Hid (∀ W, Ext X5 W → Calls Tryz.prog 55 #[.agg (ndC z (.slice d2 z.data.length e2) (.slice a2 z.acl.length f2)), .agg (ndC n (.slice da n.data.length dc) (.slice aa n.acl.length ac))] W fun e w' => e = .returned (.bool (sameN z n)) ∧ Below W.heap.size W w') := fun W hW =>
              rsame_any z n d2 a2 da aa e2 f2 dc ac W hfz HFNn.out (hDz.ext hW) (hAz.ext hW) ((HD.out.ext HE5.out).ext hW) ((HA.out.ext HE5.out).ext hW)
            have hgood : sameN z n = true → goodN M n := fun h => ⟨z, hg, h⟩
            have hbad : sameN z n = false → ¬ turnOk M old now := fun h h2 => by
              obtain ⟨y, h3, h4⟩ := (HIFF.out.1 h2).2.2.1 n HMEM.out
              rw [show keyN n = n.path.data.toList from rfl, hg] at h3
              cases h3
              rw [h] at h4; cases h4
            have HGOOD := Lib.hid hgood
            have HBAD := Lib.hid hbad
            generalize sameN z n = sm at *
            unfold ndC at HSET5 ⊢
            unfold zeroNd at HSET5 HNEW5
            clear hg CG hset5 hbx5 hEX5 hE45 hE4 hv4 hDz hAz hfz hcx hgood hbad
            go_wp2_with (refine wpList_store_row rfl 44 (.tmp 8) (.tmp 37) rfl X4.heap.size _ rfl rfl 44 _ HNEW5.out sizeNd rfl (cells_node z d2 a2 _ _ e2 f2) ?_; rw [HSET5.out])
            refine wp_region_P (by kernel_rfl) (region_sp 91 [.val (.bool true), .val (.bool false), .val (.bool false), .val (.agg (ndC z (.slice d2 z.data.length e2) (.slice a2 z.acl.length f2))), .val (.slice (some ⟨b, off, none⟩) now.length nc), .val (.int .i64 k), .val (.pointer (some ⟨b, off + k * 17, none⟩)), .val (.agg (ndC n (.slice da n.data.length dc) (.slice aa n.acl.length ac))), .val (.bool sm), .val (.bool (!sm)), .val (.bool (!sm))] ?stay rfl (by decide) rfl ?duties ?rest)
            case duties =>
              refine ⟨?_, ?_, ?_, ?_, ?_, ?_, ?_, ?_, ?_, ?_, ?_, trivial⟩
              · refine duty_free rfl fun a w' hE hF hA => ?_
                have x1 := hF.slot 9 _ (by decide) rfl
                exact wp_value (w' := w') (ex_move rfl) ⟨_, rfl, x1, Ext.refl _⟩
              · refine duty_free rfl fun a w' hE hF hA => ?_
                have x1 := hA.pick 0 39 (.bool true) rfl rfl ⟨⟨0, .data⟩, by simp, rfl, rfl⟩ (fun u h => h)
                exact wp_value (w' := w') (v := .bool false) (by simp only [execOp, x1]; simp [go_sem]) ⟨_, rfl, rfl, Ext.refl _⟩
              · refine duty_free rfl fun a w' hE hF hA => ?_
                have x1 := hA.pick 1 40 (.bool false) rfl rfl ⟨⟨1, .data⟩, by simp, rfl, rfl⟩ (fun u h => h)
                exact wp_value (w' := w') (ex_move rfl) ⟨_, rfl, x1, Ext.refl _⟩
              · refine duty_yes rfl (p := _) rfl (d := 41) rfl (show 41 < 91 by decide) ⟨⟨2, .guard⟩, by simp, rfl, rfl⟩ (fun v w h => h) fun a w' hE hF hA => ?_
                have x1 := hF.slot 8 _ (by decide) rfl
                exact wp_value (ex_load_row rfl _ x1 44 _ (0, 0) _ ((hE.block _ (Array.getElem?_eq_some_iff.1 HB5.out).1).trans HB5.out) Tryz.underlying44 rfl sizeNd) ⟨_, rfl, rfl, Ext.refl _⟩
              · refine duty_yes rfl (p := _) rfl (d := 41) rfl (show 41 < 91 by decide) ⟨⟨2, .guard⟩, by simp, rfl, rfl⟩ (fun v w h => h) fun a w' hE hF hA => ?_
                have x1 := hF.slot 2 _ (by decide) rfl
                exact wp_value (w' := w') (ex_move rfl) ⟨_, rfl, x1, Ext.refl _⟩
              · refine duty_yes rfl (p := _) rfl (d := 41) rfl (show 41 < 91 by decide) ⟨⟨2, .guard⟩, by simp, rfl, rfl⟩ (fun v w h => h) fun a w' hE hF hA => ?_
                have x1 := hF.slot 7 _ (by decide) rfl
                exact wp_value (w' := w') (ex_move rfl) ⟨_, rfl, x1, Ext.refl _⟩
              · refine duty_yes rfl (p := _) rfl (d := 41) rfl (show 41 < 91 by decide) ⟨⟨2, .guard⟩, by simp, rfl, rfl⟩ (fun v w h => h) fun a w' hE hF hA => ?_
                have x1 := hA.pick 4 43 (.slice (some ⟨b, off, none⟩) now.length nc) rfl rfl ⟨⟨4, .data⟩, by simp, rfl, rfl⟩ (fun u h => h)
                have x2 := hA.pick 5 44 (.int .i64 k) rfl rfl ⟨⟨5, .data⟩, by simp, rfl, rfl⟩ (fun u h => h)
                exact wp_value (w' := w') (v := .pointer (some ⟨b, off + k * 17, none⟩)) (by simp only [execOp, x1, x2]; simp [go_sem, hlt]) ⟨_, rfl, rfl, Ext.refl _⟩
              · refine duty_yes rfl (p := _) rfl (d := 41) rfl (show 41 < 91 by decide) ⟨⟨2, .guard⟩, by simp, rfl, rfl⟩ (fun v w h => h) fun a w' hE hF hA => ?_
                have x1 := hA.pick 6 45 (.pointer (some ⟨b, off + k * 17, none⟩)) rfl rfl ⟨⟨6, .data⟩, by simp, rfl, rfl⟩ (fun u h => h)
                exact wp_value (ex_load_at rfl _ x1 (ndC n (.slice da n.data.length dc) (.slice aa n.acl.length ac)) (fun j u hj => ((hE.cell (World.block_lt_of_cell? _ _ (HCX.out j u hj))).trans (HCX.out j u hj))) Tryz.underlying44 rfl sizeNd) ⟨_, rfl, rfl, Ext.refl _⟩
              · refine duty_yes rfl (p := _) rfl (d := 41) rfl (show 41 < 91 by decide) ⟨⟨2, .guard⟩, by simp, rfl, rfl⟩ (fun v w h => h) fun a w' hE hF hA => ?_
                have x1 := hA.pick 3 42 (.agg (ndC z (.slice d2 z.data.length e2) (.slice a2 z.acl.length f2))) rfl rfl ⟨⟨3, .data⟩, by simp, rfl, rfl⟩ (fun u h => h)
                have x2 := hA.pick 7 46 (.agg (ndC n (.slice da n.data.length dc) (.slice aa n.acl.length ac))) rfl rfl ⟨⟨7, .data⟩, by simp, rfl, rfl⟩ (fun u h => h)
                refine wp_enter (ex_call rfl (enters_f Tryz.func55 (by kernel_rfl) rfl)) (by simp only [List.map_toArray, List.map_cons, List.map_nil, x1, x2]; exact CS.out w' hE) ?_
                rintro e w4 ⟨rfl, hb⟩
                exact ⟨_, rfl, _, rfl, rfl, hb⟩
              · refine duty_yes rfl (p := _) rfl (d := 41) rfl (show 41 < 91 by decide) ⟨⟨2, .guard⟩, by simp, rfl, rfl⟩ (fun v w h => h) fun a w' hE hF hA => ?_
                have x1 := hA.pick 8 47 (.bool sm) rfl rfl ⟨⟨8, .data⟩, by simp, rfl, rfl⟩ (fun u h => h)
                exact wp_value (w' := w') (v := .bool (!sm)) (by simp only [execOp, x1]; simp [go_sem]) ⟨_, rfl, rfl, Ext.refl _⟩
              · refine duty_free rfl fun a w' hE hF hA => ?_
                have x1 := hA.pick 2 41 (.bool false) rfl rfl ⟨⟨2, .data⟩, by simp, rfl, rfl⟩ (fun u h => h)
                have x2 := hA.pick 9 48 (.bool (!sm)) rfl rfl ⟨⟨9, .data⟩, by simp, rfl, rfl⟩ (fun u h => h)
                exact wp_value (w' := w') (ex_pick rfl x1) ⟨_, rfl, x2, Ext.refl _⟩
            case stay => trivial
            case rest =>
              intro W8 hE8
              simp only [forS]
              have HE8 := Lib.hid (HE5.out.trans hE8)
              clear hE8 HE5 CS HB5 HCX HSET5 HNEW5
              simp only [filled, List.zip_cons_cons, List.zip_nil_left, List.foldl_cons, List.foldl_nil, Act.put, List.setIfInBounds_toArray, List.set_cons_succ, List.set_cons_zero]
              simp only [Exit.inBlock, Exit.then, Act.put]
              rename_i hK
              refine hK _ _ ?_
              clear hK
              cases sm with
              | true =>
                have HG2 := Lib.hid (HGK.out (HGOOD.out rfl))
                clear HGK HGOOD HBAD
                go_wp2
                go_roundw
                case rel => exact ⟨k + 1, by omega, by go_num, HG2.out, HE8.out⟩
                case measure => simp [intOf]; omega
              | false =>
                have hn := HNO.out (HBAD.out rfl)
                subst hn
                clear HGK HGOOD HBAD
                go_wp2
                go_ret
                exact ⟨rfl, HE8.out⟩
        · obtain rfl : k = now.length := by omega
          have hall : ∀ n ∈ now, goodN M n := fun n hn => by
            obtain ⟨j, hj, rfl⟩ := List.getElem_of_mem hn
            exact HG.out j hj hj
          have HALL := Lib.hid hall
          clear hall HG
          go_wp2
          go_loopw [10] (fun i wr => ∃ k : Nat, k ≤ old.length ∧ i = .int .i64 k ∧ Hid (∀ (j : Nat) (hj : j < old.length), j < k → oldN M now old[j]) ∧ Hid (Ext w wr)) (fun i _ => old.length - (intOf i).toNat)
          case atStart => exact ⟨0, Nat.zero_le _, rfl, fun j hj h => by omega, HE.out⟩
          case round =>
            clear HE
            obtain ⟨k, hk, rfl, HG, HE⟩ := hrel
            by_cases hlt : k < old.length
            · obtain ⟨b, off, vv, rfl, hb, hv, hc⟩ := HO.out k old[k] (List.getElem?_eq_getElem hlt)
              have hfn := HFO.out old[k] (List.getElem_mem hlt)
              have hmem : old[k] ∈ old := List.getElem_mem hlt
              have hgk : oldN M now old[k] → ∀ (j : Nat) (hj : j < old.length), j < k + 1 → oldN M now old[j] := fun h j hj hl => by
                by_cases e : j = k
                · subst e; exact h
                · exact HG.out j hj (by omega)
              have HGK := Lib.hid hgk
              have HMEM := Lib.hid hmem
              clear hgk hmem
              generalize old[k] = n at *
              obtain ⟨da, dc, aa, ac, rfl, _, _⟩ := hv
              have hp0 : w.cell? ⟨b, off + k * 17, none⟩ = some (.string n.path) := by
                have h := hc 0 (.string n.path) rfl
                simpa [addr_add] using h
              have HP0 := Lib.hid hp0
              have HFNn := Lib.hid hfn
              clear hc hp0 hfn
              go_wp2
              go_loopw [11, 12] (fun iv i wi => ∃ (j : Nat) (st : Bool), j ≤ now.length ∧ i = .int .i64 j ∧ iv = .bool st ∧ Hid (st = true → ∃ m ∈ now, m.path = n.path) ∧ Hid (st = false → ∀ (q : Nat) (hq : q < now.length), q < j → now[q].path ≠ n.path) ∧ Hid (Ext w wi)) (fun _ i _ => now.length - (intOf i).toNat)
              case atStart => exact ⟨0, false, Nat.zero_le _, rfl, rfl, (fun h => by cases h), (fun _ q hq h => by omega), HE.out⟩
              case round =>
                clear HE
                obtain ⟨j, st, hj, rfl, rfl, HS1, HS2, HE⟩ := hrel
                by_cases hjl : j < now.length
                · obtain ⟨nb, noff, vv, rfl, hnb, hv, hc⟩ := HN.out j now[j] (List.getElem?_eq_getElem hjl)
                  obtain ⟨da2, dc2, aa2, ac2, rfl, _, _⟩ := hv
                  have hp1 : wr.cell? ⟨nb, noff + j * 17, none⟩ = some (.string now[j].path) := by
                    have h := hc 0 (.string now[j].path) rfl
                    rw [HE.out.cell (p := ⟨nb, noff + j * 17, none⟩) hnb]
                    simpa [addr_add] using h
                  have hp2 : wr.cell? ⟨b, off + k * 17, none⟩ = some (.string n.path) := (HE.out.cell (p := ⟨b, off + k * 17, none⟩) hb).trans HP0.out
                  have hmj : now[j] ∈ now := List.getElem_mem hjl
                  have HMJ := Lib.hid hmj
                  clear hc hmj
                  cases st with
                  | true =>
                    clear hp1 hp2 HMJ
                    go_wp2
                    go_quiet (fail)
                    go_wp2
                    go_roundw
                    case rel => exact ⟨j + 1, true, by omega, by go_num, rfl, (fun _ => HS1.out trivial), (fun h => by cases h), HE.out.trans' (below_drewN (Below.refl _ _) _)⟩
                    case measure => simp [intOf]; omega
                  | false =>
                    by_cases he : now[j].path = n.path
                    · have HS3 : Hid (true = true → ∃ m ∈ now, m.path = n.path) := fun _ => ⟨_, HMJ.out, he⟩
                      rw [he] at hp1
                      have f1 : (n.path.toList == n.path.toList) = true := by simp
                      generalize n.path = p at *
                      clear he HS1 HS2 HMJ HP0
                      go_wp2
                      go_quiet (fail)
                      go_wp2
                      go_roundw
                      case rel => exact ⟨j + 1, true, by omega, by go_num, rfl, (fun _ => HS3.out trivial), (fun h => by cases h), HE.out.trans' (below_drewN (Below.refl _ _) _)⟩
                      case measure => simp [intOf]; omega
                    · have HS4 : Hid (false = false → ∀ (q : Nat) (hq : q < now.length), q < j + 1 → now[q].path ≠ n.path) := fun _ q hq hl => by
                        by_cases e : q = j
                        · subst e; exact he
                        · exact HS2.out rfl q hq (by omega)
                      have f1 : (now[j].path.toList == n.path.toList) = false := by
                        simp only [ByteArray.toList_eq, beq_eq_false_iff_ne, ne_eq]
                        exact fun h => he (ba_ext h)
                      obtain ⟨p, hp⟩ : ∃ p, p = n.path := ⟨_, rfl⟩
                      obtain ⟨q, hq⟩ : ∃ q, q = now[j].path := ⟨_, rfl⟩
                      rw [← hp] at hp2 f1
                      rw [← hq] at hp1 f1
                      clear he HS2 HMJ hp hq
                      go_wp2
                      go_quiet (fail)
                      go_wp2
                      go_roundw
                      case rel => exact ⟨j + 1, false, by omega, by go_num, rfl, (fun h => by cases h), (fun _ => HS4.out trivial), HE.out.trans' (below_drewN (Below.refl _ _) _)⟩
                      case measure => simp [intOf]; omega
                · obtain rfl : j = now.length := by omega
                  have hst : st = true ∨ (st = false ∧ ∀ m ∈ now, m.path ≠ n.path) := by
                    cases st with
                    | true => exact .inl rfl
                    | false => exact .inr ⟨rfl, fun m hm => by
                        obtain ⟨q, hq, rfl⟩ := List.getElem_of_mem hm
                        exact HS2.out rfl q hq hq⟩
                  have hin : st = true → oldN M now n := fun h h2 => by
                    obtain ⟨m, hm, e⟩ := HS1.out h
                    exact h2.2 m hm e
                  have CG := Lib.hid (rget_any wr br M (HR.out.ext HE.out) HM.out n.path HFNn.out.path)
                  have hp2 : wr.cell? ⟨b, off + k * 17, none⟩ = some (.string n.path) := (HE.out.cell (p := ⟨b, off + k * 17, none⟩) hb).trans HP0.out
                  have HST := Lib.hid hst
                  have HIN := Lib.hid hin
                  clear hst hin HS1 HS2
                  go_wp2_with fail
                  refine CG.out.mono ?_
                  rintro e X4 ⟨v4, rfl, hv4, hE4⟩
                  have hE4 : Ext wr X4 := hE4
                  obtain ⟨d2, e2, a2, f2, X5, e0, hset5, hbx5, hEX5, _, _⟩ := box_node hv4 fun b hb => hb.2
                  subst e0
                  have HSET5 := Lib.hid hset5
                  have HNEW5 := Lib.hid (heap_alloc_new X4 (.cells zeroNd 44))
                  have HE5 := Lib.hid (HE.out.trans (hE4.trans hEX5))
                  have hthr : oldN M now n ↔ ¬ ((mget M n.path.data.toList).isSome = true ∧ ∀ m ∈ now, m.path ≠ n.path) := Iff.rfl
                  have HTHR := Lib.hid hthr
                  have hbad : ¬ oldN M now n → ¬ turnOk M old now := fun h h2 => h ((HIFF.out.1 h2).2.2.2 n HMEM.out)
                  have HBAD := Lib.hid hbad
                  generalize (mget M n.path.data.toList).getD zeroN = z at *
                  generalize (mget M n.path.data.toList).isSome = th at *
                  unfold ndC at HSET5 ⊢
                  unfold zeroNd at HSET5 HNEW5
                  clear CG hset5 hbx5 hEX5 hE4 hv4 hthr hbad hp2
                  have fin : ∀ x : Bool, x = st → (x = true ∨ th = false → oldN M now n) := fun x hx h => by
                    rcases h with h | h
                    · exact HIN.out (hx ▸ h)
                    · exact HTHR.out.2 fun h2 => by rw [h] at h2; cases h2.1
                  have HF := Lib.hid fin
                  clear fin
                  cases st with
                  | true =>
                    have HG2 := Lib.hid (HGK.out (HF.out true rfl (.inl rfl)))
                    clear HST HIN HTHR HBAD HF
                    go_wp2_with (refine wpList_store_row rfl 44 (.tmp 13) (.tmp 84) rfl X4.heap.size _ rfl rfl 44 _ HNEW5.out sizeNd rfl (cells_node z d2 a2 _ _ e2 f2) ?_; rw [HSET5.out])
                    go_roundw
                    case rel => exact ⟨k + 1, by omega, by go_num, HG2.out, HE5.out⟩
                    case measure => simp [intOf]; omega
                  | false =>
                    cases th with
                    | false =>
                      have HG2 := Lib.hid (HGK.out (HF.out false rfl (.inr rfl)))
                      clear HST HIN HTHR HBAD HF
                      go_wp2_with (refine wpList_store_row rfl 44 (.tmp 13) (.tmp 84) rfl X4.heap.size _ rfl rfl 44 _ HNEW5.out sizeNd rfl (cells_node z d2 a2 _ _ e2 f2) ?_; rw [HSET5.out])
                      go_roundw
                      case rel => exact ⟨k + 1, by omega, by go_num, HG2.out, HE5.out⟩
                      case measure => simp [intOf]; omega
                    | true =>
                      have hn := HNO.out (HBAD.out fun h => HTHR.out.1 h ⟨rfl, by rcases HST.out with h3 | h3; cases h3; exact h3.2⟩)
                      subst hn
                      clear HST HIN HTHR HBAD HF HGK
                      go_wp2_with (refine wpList_store_row rfl 44 (.tmp 13) (.tmp 84) rfl X4.heap.size _ rfl rfl 44 _ HNEW5.out sizeNd rfl (cells_node z d2 a2 _ _ e2 f2) ?_; rw [HSET5.out])
                      go_ret
                      exact ⟨rfl, HE5.out⟩
            · obtain rfl : k = old.length := by omega
              have hok : turnOk M old now := HIFF.out.2 ⟨HD1.out, HD2.out, HALL.out, fun n hn => by
                obtain ⟨j, hj, rfl⟩ := List.getElem_of_mem hn
                exact HG.out j hj hj⟩
              have hn := HYES.out hok
              subst hn
              clear hok HG
              go_wp2
              go_ret
              exact ⟨rfl, HE.out⟩
end Go.Proofs.YthinpbdbhijbgaaGreatDoor
