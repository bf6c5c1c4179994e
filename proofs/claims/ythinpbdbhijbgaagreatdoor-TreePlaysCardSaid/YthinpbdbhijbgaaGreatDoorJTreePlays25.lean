/- The law TreePlays, walked. -/
import Derived.Test.YthinpbdbhijbgaaGreatDoorJTreePlays17
import Derived.Test.YthinpbdbhijbgaaGreatDoorJTreePlays22
import Derived.Test.YthinpbdbhijbgaaGreatDoorJTreePlays24
import Derived.Test.YthinpbdbhijbgaaGreatDoorJTreePlays7
namespace Go.Proofs.YthinpbdbhijbgaaGreatDoor
open Go.RowKit Go.Sort
set_option maxHeartbeats 32000000
set_option maxRecDepth 100000

def PNd (M : List (Key × Nd)) (v : Value) (w : World) : Prop := ∃ a c, v = Value.slice a M.length c ∧ NdsAt w.heap.size w a (nds M)
def PStr (L : List ByteArray) (v : Value) (w : World) : Prop := ∃ a c, v = Value.slice a L.length c ∧ StrsAt w.heap.size w a L
def PTree (M : List (Key × Nd)) (v : Value) (w : World) : Prop := ∃ b S, v = Value.pointer (some ⟨b, 0, none⟩) ∧ TreeAt S w b M M.length
theorem pnd_stay (M : List (Key × Nd)) : ∀ v w w', PNd M v w → Ext w w' → PNd M v w' := fun _ _ _ ⟨a, c, h1, h2⟩ hE => ⟨a, c, h1, h2.ext hE⟩
theorem pstr_stay (L : List ByteArray) : ∀ v w w', PStr L v w → Ext w w' → PStr L v w' := fun _ _ _ ⟨a, c, h1, h2⟩ hE => ⟨a, c, h1, fun i s hi => by
  obtain ⟨b, off, e, hb, hc⟩ := h2 i s hi
  exact ⟨b, off, e, Nat.lt_of_lt_of_le hb hE.size, (hE.cell (p := ⟨b, off + i, none⟩) hb).trans hc⟩⟩
theorem ptree_stay (M : List (Key × Nd)) : ∀ v w w', PTree M v w → Ext w w' → PTree M v w' := fun _ _ _ ⟨b, S, h1, h2⟩ hE => ⟨b, S, h1, h2.ext hE⟩

/-- The last operation's value. -/
theorem filled_last {t : Tmp} {v : Value} : ∀ (l : List Oper) (us : List Value) (a : Act), l.length = us.length → (l.getLast?.bind (·.dst)) = some t → us.getLast? = some v → t < a.tmps.size → (filled l us a).tmps.getD t undef = v
  | [], _, _, _, h, _, _ => by simp at h
  | [o], [u], a, _, h, hv, ht => by
    simp at h hv
    subst hv
    show (a.put o.dst u).tmps.getD t undef = u
    rw [h, put_getD _ _ _ _ ht, if_pos rfl]
  | [_], [], _, hl, _, _, _ => by simp at hl
  | [_], _ :: _ :: _, _, hl, _, _, _ => by simp at hl
  | _ :: _ :: _, [], _, hl, _, _, _ => by simp at hl
  | _ :: _ :: _, [_], _, hl, _, _, _ => by simp at hl
  | o :: p :: l, u :: x :: us, a, hl, h, hv, ht => by
    show (filled (p :: l) (x :: us) (a.put o.dst u)).tmps.getD t undef = v
    exact filled_last (p :: l) (x :: us) (a.put o.dst u) (by simpa using hl) (by simpa using h) (by simpa using hv) (by rw [put_size]; exact ht)

theorem plays_walk (L : List Opn) (a : Option Addr) (c : Nat) (s : ByteArray) (z : Int) (w : World) (hT : Tabs w) (hL : OpsAt w.heap.size w a L) (hf : ∀ c ∈ L, Fit c.n ∧ Ir c.n ∧ c.p.size ≤ 9223372036854775800) (hl : L.length * 192 ≤ 140737488355328) (hs : s.size ≤ 9223372036854775800) :
    Calls Tryz.prog 4 #[.slice a L.length c, .string s, .int .i64 z] w fun e w' => e = .returned (.bool true) ∧ Below w.heap.size w w' := by
  have hsz := hT.size
  have hl64 : L.length ≤ 9223372036854775807 := by omega
  have HT := Lib.hid hT
  have HL := Lib.hid hL
  have HF := Lib.hid hf
  have C1 := Lib.hid (new_any w)
  clear hT hL hf
  go_enter Tryz.func4, Tryz.ntmps4
  go_wp2_with fail
  refine C1.out.mono ?_
  rintro e W1 ⟨t, rfl, hT1, hE1⟩
  have C2 := Lib.hid (new_any W1)
  have HT1 := Lib.hid hT1
  have HE1 := Lib.hid hE1
  clear C1 hT1 hE1
  go_wp2_with fail
  refine C2.out.mono ?_
  rintro e W2 ⟨u, rfl, hT2, hE2⟩
  have C3 := Lib.hid (rnew7_any W2)
  have HT2 := Lib.hid hT2
  have HE2 := Lib.hid hE2
  clear C2 hT2 hE2
  go_wp2_with fail
  refine C3.out.mono ?_
  rintro e W3 ⟨r, rfl, hr, hR3, hE3⟩
  have C4 := Lib.hid (rnew7_any W3)
  have HR3 := Lib.hid hR3
  have HE3 := Lib.hid hE3
  have HRL := Lib.hid hr
  clear C3 hR3 hE3 hr
  go_wp2_with fail
  refine C4.out.mono ?_
  rintro e W4 ⟨q, rfl, hq, hR4, hE4⟩
  have hP4 : PlayAt w.heap.size w W4 t u r q 1 [(keyN rootN, rootN)] [(keyN rootN, rootN)] := by
    have e1 := HE1.out
    have e2 := HE2.out
    have e3 := HE3.out
    have z1 := e1.size
    have z2 := e2.size
    have z3 := e3.size
    have hE4 : Ext W3 W4 := hE4
    have z4 := hE4.size
    have hr := HRL.out
    have hlt := HR3.out.lt
    refine ⟨⟨_, _, _, _, ⟨((HT1.out.ext e2).ext e3).ext hE4, HR3.out.ext hE4, fun k hk => ⟨fun h => by omega, by omega⟩, fun k hk => by omega, by omega, root_well⟩, ⟨(HT2.out.ext e3).ext hE4, hR4, fun k hk => ⟨fun h => by omega, by omega⟩, fun k hk => by omega, by omega, root_well⟩, fun k hk hn => by omega⟩, ((Ext.trans e1 e2).trans e3).trans hE4⟩
  have C5 := Lib.hid (alive_any W4 (HT.out.below hP4.bel hsz))
  have HP4 := Lib.hid hP4
  clear C4 hq hR4 hE4 hP4 HT1 HT2 HR3 HE1 HE2 HE3 HRL
  go_wp2_with fail
  refine C5.out.mono ?_
  rintro e W5 ⟨rfl, hE5⟩
  have HP5 := Lib.hid (HP4.out.ext hE5)
  clear C5 hE5 HP4
  go_wp2
  go_loopw [7, 8, 9, 10, 11] (fun va vb vc vd i wr => ∃ (k t u r q : Nat) (M1 M2 : List (Key × Nd)), k ≤ L.length ∧ va = .pointer (some ⟨t, 0, none⟩) ∧ vb = .pointer (some ⟨u, 0, none⟩) ∧ vc = .pointer (some ⟨r, 0, none⟩) ∧ vd = .pointer (some ⟨q, 0, none⟩) ∧ i = .int .i64 k ∧ Hid (PlayAt w.heap.size w wr t u r q (k + 1) M1 M2)) (fun _ _ _ _ i _ => L.length - (intOf i).toNat)
  case atStart => exact ⟨0, t, u, r, q, _, _, Nat.zero_le _, rfl, rfl, rfl, rfl, rfl, HP5.out⟩
  case round =>
    clear HP5
    obtain ⟨k, t, u, r, q, M1, M2, hk, rfl, rfl, rfl, rfl, rfl, HP⟩ := hrel
    have hbw := HP.out.bel.size
    by_cases hlt : k < L.length
    · obtain ⟨ob, oo, da, dc, aa, ac, rfl, hob, hD, hA, hc⟩ := HL.out k L[k] (List.getElem?_eq_getElem hlt)
      obtain ⟨hf, hir, hpp⟩ := HF.out L[k] (List.getElem_mem hlt)
      generalize L[k] = op at *
      obtain ⟨kk, pp, n⟩ := op
      simp only at hD hA hc hf hir hpp
      have hcw : ∀ W, Below w.heap.size w W → ∀ j v, (opC kk pp n (.slice da n.data.length dc) (.slice aa n.acl.length ac))[j]? = some v → W.cell? ((⟨ob, oo + k * 19, none⟩ : Addr).add j) = some v := fun W h j v hj => by
        rw [addr_add, h.cell (p := ⟨ob, oo + k * 19 + j, none⟩) hob]; exact hc j v hj
      have hkk : wr.cell? ⟨ob, oo + k * 19, none⟩ = some (.int .i64 kk) := by
        have h := hcw wr HP.out.bel 0 (.int .i64 kk) rfl
        rw [addr_add, Nat.add_zero] at h
        exact h
      have HC := Lib.hid (hcw wr HP.out.bel)
      obtain ⟨S1, R1, S2, R2, h1, h2, h3⟩ := id HP.out.at_
      have hM := h1.tree.ok
      have hMK := h1.well.len
      by_cases hk4 : kk = 4
      · have f4 : (kk == 4) = true := by simpa using hk4
        have CT := Lib.hid (tclone_any S1 wr t M1 _ h1.tree (by omega))
        have CR := Lib.hid fun W (h : Ext wr W) => rclone7_any W r M1 ((h1.ref.ext h).rt) hM (by omega)
        clear hk4 h1 h2 h3 hc hcw hD hA hf hir HC hM
        go_wp2_with fail
        refine CT.out.mono ?_
        rintro e W6 ⟨b, rfl, hT6, hE6⟩
        have C7 := Lib.hid (CR.out W6 hE6)
        have HT6 := Lib.hid hT6
        have HE6 := Lib.hid hE6
        clear CT CR hT6 hE6 hkk
        go_wp2_with fail
        refine C7.out.mono ?_
        rintro e W7 ⟨b2, rfl, hb2, hR7, hE7⟩
        have HP7 := Lib.hid ((HP.out.clone HT6.out HE6.out hb2 hR7 hE7).more (show k + 1 ≤ k + 1 + 1 by omega))
        clear C7 hb2 hR7 hE7 HT6 HE6
        go_wp2
        go_roundw
        case rel => exact ⟨k + 1, _, _, _, _, _, _, by omega, rfl, rfl, rfl, rfl, by go_num, HP7.out⟩
        case measure => simp [intOf]; omega
      · have f4 : (kk == 4) = false := by simpa using hk4
        by_cases hk5 : kk = 5
        · have f5 : (kk == 5) = true := by simpa using hk5
          have HP7 := Lib.hid (HP.out.swap.more (show k + 1 ≤ k + 1 + 1 by omega))
          clear hk4 hk5 h1 h2 h3 hc hcw hD hA hf hir HC hM
          go_wp2
          go_roundw
          case rel => exact ⟨k + 1, _, _, _, _, _, _, by omega, rfl, rfl, rfl, rfl, by go_num, HP7.out⟩
          case measure => simp [intOf]; omega
        · have f5 : (kk == 5) = false := by simpa using hk5
          have CD := does_any w.heap.size S1 R1 wr t r (k + 1) M1 h1 kk pp n da aa dc ac (HT.out.below HP.out.bel hsz) hsz hf hir hpp (by omega) (hD.below HP.out.bel) (hA.below HP.out.bel)
          have HDO := Lib.hid fun W M' => PlayAt.does (W := W) (M' := M') h1 h2 h3 HP.out.bel
          unfold opC at CD HC
          have CD := Lib.hid CD
          clear hk4 hk5 h1 h2 h3 hc hcw hD hA hf hir hM
          go_wp2_with (refine wpList_load_at rfl 46 (.tmp 41) rfl _ rfl _ _ HC.out Tryz.underlying46 rfl sizeOp ?_)
          refine CD.out.mono ?_
          rintro e W7 ⟨rfl, hA7⟩
          have HP7 := Lib.hid (HDO.out W7 _ hA7)
          clear CD HDO hA7 hkk HC
          go_wp2
          go_roundw
          case rel => exact ⟨k + 1, _, _, _, _, _, _, by omega, rfl, rfl, rfl, rfl, by go_num, HP7.out⟩
          case measure => simp [intOf]; omega
    · obtain rfl : k = L.length := by omega
      obtain ⟨S1, R1, S2, R2, h1, h2, h3⟩ := id HP.out.at_
      have hM1 := h1.tree.ok
      have hM2 := h2.tree.ok
      have hl1 := h1.well.len
      have hl2 := h2.well.len
      have hr1 := h1.ref.rt
      have hr2 := h2.ref.rt
      obtain ⟨ra, rc, vs1, hb1, _, _, hS1, hrow1, _⟩ := id hr1
      obtain ⟨qa, qc, vs2, hb2, _, _, hS2, hrow2, _⟩ := id hr2
      have hc1 : wr.cell? ⟨r, 0, none⟩ = some (.slice ra M1.length rc) := by rw [← nds_length M1]; exact cell_of_row _ _ _ _ _ _ hb1
      have hc2 : wr.cell? ⟨q, 0, none⟩ = some (.slice qa M2.length qc) := by rw [← nds_length M2]; exact cell_of_row _ _ _ _ _ _ hb2
      have hrn1 : NdsAt wr.heap.size wr ra (nds M1) := hrow1.nds fun k hk => hk.1
      have hrn2 : NdsAt wr.heap.size wr qa (nds M2) := hrow2.nds fun k hk => hk.1
      have hir1 := h1.well.ir
      have hsM : M1.length * 168 ≤ 140737488355328 := by omega
      have hsM2 : M2.length * 168 ≤ 140737488355328 := by omega
      have hl64 : M1.length ≤ 9223372036854775807 := by omega
      have hl64' : M2.length ≤ 9223372036854775807 := by omega
      have CL1 := Lib.hid fun W (h : Ext wr W) => like_any S1 W t r M1 _ (h1.tree.ext h) (hr1.ext h) h1.well.clo s hs hsM
      have CL2 := Lib.hid fun W (h : Ext wr W) => like_any S2 W u q M2 _ (h2.tree.ext h) (hr2.ext h) h2.well.clo s hs hsM2
      have CA1 := Lib.hid fun W (h : Ext wr W) => lall_nds S1 W t M1 _ (h1.tree.ext h) M1.length (Nat.le_refl _) (by unfold maxLen; omega) hsM
      have CA2 := Lib.hid fun W (h : Ext wr W) => lall_nds S2 W u M2 _ (h2.tree.ext h) M2.length (Nat.le_refl _) (by unfold maxLen; omega) hsM2
      have CN1 := Lib.hid fun W (h : Ext wr W) (a2 : Option Addr) (c2 : Nat) (h2 : NdsAt W.heap.size W a2 (nds M1)) => (by
        have := nodes_self (nds M1) a2 ra c2 rc W h2 (hrn1.ext h) (nds_fit hM1) (by rw [nds_length]; omega)
        rwa [nds_length] at this : Calls Tryz.prog 21 #[.slice a2 M1.length c2, .slice ra M1.length rc] W fun e w' => e = .returned (.bool true) ∧ Ext W w')
      have CN2 := Lib.hid fun W (h : Ext wr W) (a2 : Option Addr) (c2 : Nat) (h2 : NdsAt W.heap.size W a2 (nds M2)) => (by
        have := nodes_self (nds M2) a2 qa c2 qc W h2 (hrn2.ext h) (nds_fit hM2) (by rw [nds_length]; omega)
        rwa [nds_length] at this : Calls Tryz.prog 21 #[.slice a2 M2.length c2, .slice qa M2.length qc] W fun e w' => e = .returned (.bool true) ∧ Ext W w')
      have CC := Lib.hid fun W (h : Ext wr W) => tcount_any S1 W t M1 _ (h1.tree.ext h)
      have CO1 := Lib.hid fun W (h : Ext wr W) => towned_any S1 W t M1 _ (h1.tree.ext h) hsM z
      have CO2 := Lib.hid fun W (h : Ext wr W) => rowned_any W r M1 (hr1.ext h) hM1 hsM z
      have CI1 := Lib.hid fun W (h : Ext wr W) => tidle_any S1 W t M1 _ (h1.tree.ext h) hsM
      have CI2 := Lib.hid fun W (h : Ext wr W) => ridle_any W r M1 (hr1.ext h) hM1 hsM
      have CG1 := Lib.hid fun W (h : Ext wr W) => taged_any S1 W t M1 _ (h1.tree.ext h) hsM hir1 z
      have CG2 := Lib.hid fun W (h : Ext wr W) => raged_any W r M1 (hr1.ext h) hM1 hsM hir1 z
      have CH1 := Lib.hid fun W (h : Ext wr W) => taged_any S1 W t M1 _ (h1.tree.ext h) hsM hir1 1125899906842624
      have CH2 := Lib.hid fun W (h : Ext wr W) => raged_any W r M1 (hr1.ext h) hM1 hsM hir1 1125899906842624
      have CS1 := Lib.hid fun W (h : Ext wr W) => tsame_any S1 S2 W t u M1 M2 _ _ (h1.tree.ext h) (h2.tree.ext h)
      have CS2 := Lib.hid fun W (h : Ext wr W) => rsame7_any W r q M1 M2 (hr1.ext h) (hr2.ext h) hM1 hM2
      have CT := Lib.hid fun W (h : Ext wr W) => tclone_any S1 W t M1 _ (h1.tree.ext h) (by omega)
      have CSS := Lib.hid fun W (h : Ext wr W) (b : Nat) (S9 : Nat → Prop) (hb : TreeAt S9 W b M1 M1.length) => (by
        have := tsame_any S1 S9 W t b M1 M1 _ _ (h1.tree.ext h) hb
        rwa [sameM_self] at this : Calls Tryz.prog 31 #[.pointer (some ⟨t, 0, none⟩), .pointer (some ⟨b, 0, none⟩)] W fun e w' => e = .returned (.bool true) ∧ Ext W w')
      generalize sameM M1 M2 = sb at *
      have hsb : (sb == sb) = true := by simp
      have HC1 := Lib.hid hc1
      have HC2 := Lib.hid hc2
      have HB := Lib.hid HP.out.bel
      clear h1 h2 h3 hM1 hM2 hr1 hr2 hb1 hb2 hS1 hS2 hrow1 hrow2 hc1 hc2 hrn1 hrn2 hir1 HP HF HL HT hl1 hl2
      go_wp2
      refine wp_region_P (by kernel_rfl) (region_sp 156 [.val (.pointer (some ⟨t, 0, none⟩)), .val (.pointer (some ⟨r, 0, none⟩)), .val (.string s), .val (.bool true), .val (.bool true), .val (.pointer (some ⟨u, 0, none⟩)), .val (.pointer (some ⟨q, 0, none⟩)), .val (.string s), .val (.bool true), .val (.bool true), .val (.bool true), .val (.pointer (some ⟨t, 0, none⟩)), .val (.pointer (some ⟨r, 0, none⟩)), .val (.pointer (some ⟨r, 0, none⟩)), .val (.pointer (some ⟨r, 0, none⟩)), .val (.slice ra M1.length rc), .val (.int .i64 M1.length), .prop (PNd M1), .val (.pointer (some ⟨r, 0, none⟩)), .val (.pointer (some ⟨r, 0, none⟩)), .val (.pointer (some ⟨r, 0, none⟩)), .val (.slice ra M1.length rc), .val (.bool true), .val (.bool true), .val (.bool true), .val (.pointer (some ⟨u, 0, none⟩)), .val (.pointer (some ⟨q, 0, none⟩)), .val (.pointer (some ⟨q, 0, none⟩)), .val (.pointer (some ⟨q, 0, none⟩)), .val (.slice qa M2.length qc), .val (.int .i64 M2.length), .prop (PNd M2), .val (.pointer (some ⟨q, 0, none⟩)), .val (.pointer (some ⟨q, 0, none⟩)), .val (.pointer (some ⟨q, 0, none⟩)), .val (.slice qa M2.length qc), .val (.bool true), .val (.bool true), .val (.bool true), .val (.pointer (some ⟨t, 0, none⟩)), .val (.int .i64 M1.length), .val (.pointer (some ⟨r, 0, none⟩)), .val (.pointer (some ⟨r, 0, none⟩)), .val (.pointer (some ⟨r, 0, none⟩)), .val (.slice ra M1.length rc), .val (.int .i64 M1.length), .val (.bool true), .val (.bool true), .val (.bool true), .val (.pointer (some ⟨t, 0, none⟩)), .val (.int .i64 z), .prop (PStr (someL M1 (ownP z))), .val (.pointer (some ⟨r, 0, none⟩)), .val (.int .i64 z), .prop (PStr (someL M1 (ownP z))), .val (.bool true), .val (.bool true), .val (.bool true), .val (.pointer (some ⟨t, 0, none⟩)), .prop (PStr (someL M1 (idleP M1))), .val (.pointer (some ⟨r, 0, none⟩)), .prop (PStr (someL M1 (idleP M1))), .val (.bool true), .val (.bool true), .val (.bool true), .val (.pointer (some ⟨t, 0, none⟩)), .val (.int .i64 z), .prop (PStr (someL M1 (agedP M1 z))), .val (.pointer (some ⟨r, 0, none⟩)), .val (.int .i64 z), .prop (PStr (someL M1 (agedP M1 z))), .val (.bool true), .val (.bool true), .val (.bool true), .val (.pointer (some ⟨t, 0, none⟩)), .prop (PStr (someL M1 (agedP M1 1125899906842624))), .val (.pointer (some ⟨r, 0, none⟩)), .prop (PStr (someL M1 (agedP M1 1125899906842624))), .val (.bool true), .val (.bool true), .val (.bool true), .val (.pointer (some ⟨t, 0, none⟩)), .val (.pointer (some ⟨u, 0, none⟩)), .val (.bool sb), .val (.pointer (some ⟨r, 0, none⟩)), .val (.pointer (some ⟨q, 0, none⟩)), .val (.bool sb), .val (.bool true), .val (.bool true), .val (.bool true), .val (.pointer (some ⟨t, 0, none⟩)), .val (.pointer (some ⟨t, 0, none⟩)), .prop (PTree M1), .val (.bool true), .val (.bool true), .val (.bool true)] ?stay rfl (by kernel_rfl) rfl ?duties ?rest)
      case duties =>
        refine ⟨?_, ?_, ?_, ?_, ?_, ?_, ?_, ?_, ?_, ?_, ?_, ?_, ?_, ?_, ?_, ?_, ?_, ?_, ?_, ?_, ?_, ?_, ?_, ?_, ?_, ?_, ?_, ?_, ?_, ?_, ?_, ?_, ?_, ?_, ?_, ?_, ?_, ?_, ?_, ?_, ?_, ?_, ?_, ?_, ?_, ?_, ?_, ?_, ?_, ?_, ?_, ?_, ?_, ?_, ?_, ?_, ?_, ?_, ?_, ?_, ?_, ?_, ?_, ?_, ?_, ?_, ?_, ?_, ?_, ?_, ?_, ?_, ?_, ?_, ?_, ?_, ?_, ?_, ?_, ?_, ?_, ?_, ?_, ?_, ?_, ?_, ?_, ?_, ?_, ?_, ?_, ?_, ?_, ?_, ?_, ?_, trivial⟩
        · refine duty_free rfl fun a w' hE hF hA => ?_
          have x1 := hF.slot 7 _ (by decide) rfl
          exact wp_value (w' := w') (ex_move rfl) ⟨_, rfl, x1, Ext.refl _⟩
        · refine duty_free rfl fun a w' hE hF hA => ?_
          have x1 := hF.slot 9 _ (by decide) rfl
          exact wp_value (w' := w') (ex_move rfl) ⟨_, rfl, x1, Ext.refl _⟩
        · refine duty_free rfl fun a w' hE hF hA => ?_
          have x1 := hF.slot 1 _ (by decide) rfl
          exact wp_value (w' := w') (ex_move rfl) ⟨_, rfl, x1, Ext.refl _⟩
        · refine duty_free rfl fun a w' hE hF hA => ?_
          have x1 := hA.pick 0 61 (.pointer (some ⟨t, 0, none⟩)) rfl rfl ⟨⟨0, .data⟩, by simp, rfl, rfl⟩ (fun u h => h)
          have x2 := hA.pick 1 62 (.pointer (some ⟨r, 0, none⟩)) rfl rfl ⟨⟨1, .data⟩, by simp, rfl, rfl⟩ (fun u h => h)
          have x3 := hA.pick 2 63 (.string s) rfl rfl ⟨⟨2, .data⟩, by simp, rfl, rfl⟩ (fun u h => h)
          refine wp_enter (ex_call rfl (enters_f Tryz.func20 (by kernel_rfl) rfl)) (by simp only [List.map_toArray, List.map_cons, List.map_nil, x1, x2, x3]; exact CL1.out w' hE) ?_
          rintro e w4 ⟨rfl, hb⟩
          exact ⟨_, rfl, _, rfl, rfl, hb⟩
        · refine duty_free rfl fun a w' hE hF hA => ?_
          have x1 := hA.pick 3 64 (.bool true) rfl rfl ⟨⟨3, .data⟩, by simp, rfl, rfl⟩ (fun u h => h)
          exact wp_value (w' := w') (ex_move rfl) ⟨_, rfl, x1, Ext.refl _⟩
        · refine duty_yes rfl (p := _) rfl (d := 65) rfl (show 65 < 156 by decide) ⟨⟨4, .guard⟩, by simp, rfl, rfl⟩ (fun v w h => h) fun a w' hE hF hA => ?_
          have x1 := hF.slot 8 _ (by decide) rfl
          exact wp_value (w' := w') (ex_move rfl) ⟨_, rfl, x1, Ext.refl _⟩
        · refine duty_yes rfl (p := _) rfl (d := 65) rfl (show 65 < 156 by decide) ⟨⟨4, .guard⟩, by simp, rfl, rfl⟩ (fun v w h => h) fun a w' hE hF hA => ?_
          have x1 := hF.slot 10 _ (by decide) rfl
          exact wp_value (w' := w') (ex_move rfl) ⟨_, rfl, x1, Ext.refl _⟩
        · refine duty_yes rfl (p := _) rfl (d := 65) rfl (show 65 < 156 by decide) ⟨⟨4, .guard⟩, by simp, rfl, rfl⟩ (fun v w h => h) fun a w' hE hF hA => ?_
          have x1 := hF.slot 1 _ (by decide) rfl
          exact wp_value (w' := w') (ex_move rfl) ⟨_, rfl, x1, Ext.refl _⟩
        · refine duty_yes rfl (p := _) rfl (d := 65) rfl (show 65 < 156 by decide) ⟨⟨4, .guard⟩, by simp, rfl, rfl⟩ (fun v w h => h) fun a w' hE hF hA => ?_
          have x1 := hA.pick 5 66 (.pointer (some ⟨u, 0, none⟩)) rfl rfl ⟨⟨5, .data⟩, by simp, rfl, rfl⟩ (fun u h => h)
          have x2 := hA.pick 6 67 (.pointer (some ⟨q, 0, none⟩)) rfl rfl ⟨⟨6, .data⟩, by simp, rfl, rfl⟩ (fun u h => h)
          have x3 := hA.pick 7 68 (.string s) rfl rfl ⟨⟨7, .data⟩, by simp, rfl, rfl⟩ (fun u h => h)
          refine wp_enter (ex_call rfl (enters_f Tryz.func20 (by kernel_rfl) rfl)) (by simp only [List.map_toArray, List.map_cons, List.map_nil, x1, x2, x3]; exact CL2.out w' hE) ?_
          rintro e w4 ⟨rfl, hb⟩
          exact ⟨_, rfl, _, rfl, rfl, hb⟩
        · refine duty_free rfl fun a w' hE hF hA => ?_
          have x1 := hA.pick 4 65 (.bool true) rfl rfl ⟨⟨4, .data⟩, by simp, rfl, rfl⟩ (fun u h => h)
          have x2 := hA.pick 8 69 (.bool true) rfl rfl ⟨⟨8, .data⟩, by simp, rfl, rfl⟩ (fun u h => h)
          exact wp_value (w' := w') (ex_pick rfl x1) ⟨_, rfl, x2, Ext.refl _⟩
        · refine duty_free rfl fun a w' hE hF hA => ?_
          have x1 := hA.pick 9 70 (.bool true) rfl rfl ⟨⟨9, .data⟩, by simp, rfl, rfl⟩ (fun u h => h)
          exact wp_value (w' := w') (ex_move rfl) ⟨_, rfl, x1, Ext.refl _⟩
        · refine duty_yes rfl (p := _) rfl (d := 71) rfl (show 71 < 156 by decide) ⟨⟨10, .guard⟩, by simp, rfl, rfl⟩ (fun v w h => h) fun a w' hE hF hA => ?_
          have x1 := hF.slot 7 _ (by decide) rfl
          exact wp_value (w' := w') (ex_move rfl) ⟨_, rfl, x1, Ext.refl _⟩
        · refine duty_yes rfl (p := _) rfl (d := 71) rfl (show 71 < 156 by decide) ⟨⟨10, .guard⟩, by simp, rfl, rfl⟩ (fun v w h => h) fun a w' hE hF hA => ?_
          have x1 := hF.slot 9 _ (by decide) rfl
          exact wp_value (w' := w') (ex_move rfl) ⟨_, rfl, x1, Ext.refl _⟩
        · refine duty_yes rfl (p := _) rfl (d := 71) rfl (show 71 < 156 by decide) ⟨⟨10, .guard⟩, by simp, rfl, rfl⟩ (fun v w h => h) fun a w' hE hF hA => ?_
          have x1 := hA.pick 12 73 (.pointer (some ⟨r, 0, none⟩)) rfl rfl ⟨⟨12, .data⟩, by simp, rfl, rfl⟩ (fun u h => h)
          exact wp_value (ex_nilCheck rfl _ x1) ⟨_, rfl, rfl, Ext.refl _⟩
        · refine duty_yes rfl (p := _) rfl (d := 71) rfl (show 71 < 156 by decide) ⟨⟨10, .guard⟩, by simp, rfl, rfl⟩ (fun v w h => h) fun a w' hE hF hA => ?_
          have x1 := hA.pick 13 74 (.pointer (some ⟨r, 0, none⟩)) rfl rfl ⟨⟨13, .data⟩, by simp, rfl, rfl⟩ (fun u h => h)
          exact wp_value (w' := w') (v := .pointer (some ⟨r, 0, none⟩)) (by simp only [execOp, x1]; simp [go_sem]) ⟨_, rfl, rfl, Ext.refl _⟩
        · refine duty_yes rfl (p := _) rfl (d := 71) rfl (show 71 < 156 by decide) ⟨⟨10, .guard⟩, by simp, rfl, rfl⟩ (fun v w h => h) fun a w' hE hF hA => ?_
          have x1 := hA.pick 14 75 (.pointer (some ⟨r, 0, none⟩)) rfl rfl ⟨⟨14, .data⟩, by simp, rfl, rfl⟩ (fun u h => h)
          exact wp_value (ex_cell rfl _ _ x1 ((hE.cell (World.block_lt_of_cell? _ _ HC1.out)).trans HC1.out) rfl Tryz.underlying50) ⟨_, rfl, rfl, Ext.refl _⟩
        · refine duty_yes rfl (p := _) rfl (d := 71) rfl (show 71 < 156 by decide) ⟨⟨10, .guard⟩, by simp, rfl, rfl⟩ (fun v w h => h) fun a w' hE hF hA => ?_
          have x1 := hA.pick 15 76 (.slice ra M1.length rc) rfl rfl ⟨⟨15, .data⟩, by simp, rfl, rfl⟩ (fun u h => h)
          exact wp_value (w' := w') (v := .int .i64 M1.length) (by simp only [execOp, resolve, invoke, builtin, Sem.run_bind, Sem.run_pure, Result.andThen_ok, List.map_toArray, List.map_cons, List.map_nil, x1]; simp [go_sem]) ⟨_, rfl, rfl, Ext.refl _⟩
        · refine duty_yes rfl (p := _) rfl (d := 71) rfl (show 71 < 156 by decide) ⟨⟨10, .guard⟩, by simp, rfl, rfl⟩ (fun v w h => h) fun a w' hE hF hA => ?_
          have x1 := hA.pick 11 72 (.pointer (some ⟨t, 0, none⟩)) rfl rfl ⟨⟨11, .data⟩, by simp, rfl, rfl⟩ (fun u h => h)
          have x2 := hA.pick 16 77 (.int .i64 M1.length) rfl rfl ⟨⟨16, .data⟩, by simp, rfl, rfl⟩ (fun u h => h)
          refine wp_enter (ex_call rfl (enters_f Tryz.func22 (by kernel_rfl) rfl)) (by simp only [List.map_toArray, List.map_cons, List.map_nil, x1, x2]; exact CA1.out w' hE) ?_
          rintro e w4 ⟨a2, c2, rfl, h2, hb⟩
          exact ⟨_, rfl, _, rfl, ⟨a2, c2, rfl, h2⟩, hb⟩
        · refine duty_yes rfl (p := _) rfl (d := 71) rfl (show 71 < 156 by decide) ⟨⟨10, .guard⟩, by simp, rfl, rfl⟩ (fun v w h => h) fun a w' hE hF hA => ?_
          have x1 := hF.slot 9 _ (by decide) rfl
          exact wp_value (w' := w') (ex_move rfl) ⟨_, rfl, x1, Ext.refl _⟩
        · refine duty_yes rfl (p := _) rfl (d := 71) rfl (show 71 < 156 by decide) ⟨⟨10, .guard⟩, by simp, rfl, rfl⟩ (fun v w h => h) fun a w' hE hF hA => ?_
          have x1 := hA.pick 18 79 (.pointer (some ⟨r, 0, none⟩)) rfl rfl ⟨⟨18, .data⟩, by simp, rfl, rfl⟩ (fun u h => h)
          exact wp_value (ex_nilCheck rfl _ x1) ⟨_, rfl, rfl, Ext.refl _⟩
        · refine duty_yes rfl (p := _) rfl (d := 71) rfl (show 71 < 156 by decide) ⟨⟨10, .guard⟩, by simp, rfl, rfl⟩ (fun v w h => h) fun a w' hE hF hA => ?_
          have x1 := hA.pick 19 80 (.pointer (some ⟨r, 0, none⟩)) rfl rfl ⟨⟨19, .data⟩, by simp, rfl, rfl⟩ (fun u h => h)
          exact wp_value (w' := w') (v := .pointer (some ⟨r, 0, none⟩)) (by simp only [execOp, x1]; simp [go_sem]) ⟨_, rfl, rfl, Ext.refl _⟩
        · refine duty_yes rfl (p := _) rfl (d := 71) rfl (show 71 < 156 by decide) ⟨⟨10, .guard⟩, by simp, rfl, rfl⟩ (fun v w h => h) fun a w' hE hF hA => ?_
          have x1 := hA.pick 20 81 (.pointer (some ⟨r, 0, none⟩)) rfl rfl ⟨⟨20, .data⟩, by simp, rfl, rfl⟩ (fun u h => h)
          exact wp_value (ex_cell rfl _ _ x1 ((hE.cell (World.block_lt_of_cell? _ _ HC1.out)).trans HC1.out) rfl Tryz.underlying50) ⟨_, rfl, rfl, Ext.refl _⟩
        · refine duty_yes rfl (p := _) rfl (d := 71) rfl (show 71 < 156 by decide) ⟨⟨10, .guard⟩, by simp, rfl, rfl⟩ (fun v w h => h) fun a w' hE hF hA => ?_
          have p1 : (PNd M1) (a.eval (.tmp 78)) w' := hA.slot 17 78 rfl rfl ⟨⟨17, .data⟩, by simp, rfl, rfl⟩
          have x2 := hA.pick 21 82 (.slice ra M1.length rc) rfl rfl ⟨⟨21, .data⟩, by simp, rfl, rfl⟩ (fun u h => h)
          obtain ⟨a2, c2, x1, h2⟩ := p1
          refine wp_enter (ex_call rfl (enters_f Tryz.func21 (by kernel_rfl) rfl)) (by simp only [List.map_toArray, List.map_cons, List.map_nil, x1, x2]; exact CN1.out w' hE a2 c2 h2) ?_
          rintro e w4 ⟨rfl, hb⟩
          exact ⟨_, rfl, _, rfl, rfl, hb⟩
        · refine duty_free rfl fun a w' hE hF hA => ?_
          have x1 := hA.pick 10 71 (.bool true) rfl rfl ⟨⟨10, .data⟩, by simp, rfl, rfl⟩ (fun u h => h)
          have x2 := hA.pick 22 83 (.bool true) rfl rfl ⟨⟨22, .data⟩, by simp, rfl, rfl⟩ (fun u h => h)
          exact wp_value (w' := w') (ex_pick rfl x1) ⟨_, rfl, x2, Ext.refl _⟩
        · refine duty_free rfl fun a w' hE hF hA => ?_
          have x1 := hA.pick 23 84 (.bool true) rfl rfl ⟨⟨23, .data⟩, by simp, rfl, rfl⟩ (fun u h => h)
          exact wp_value (w' := w') (ex_move rfl) ⟨_, rfl, x1, Ext.refl _⟩
        · refine duty_yes rfl (p := _) rfl (d := 85) rfl (show 85 < 156 by decide) ⟨⟨24, .guard⟩, by simp, rfl, rfl⟩ (fun v w h => h) fun a w' hE hF hA => ?_
          have x1 := hF.slot 8 _ (by decide) rfl
          exact wp_value (w' := w') (ex_move rfl) ⟨_, rfl, x1, Ext.refl _⟩
        · refine duty_yes rfl (p := _) rfl (d := 85) rfl (show 85 < 156 by decide) ⟨⟨24, .guard⟩, by simp, rfl, rfl⟩ (fun v w h => h) fun a w' hE hF hA => ?_
          have x1 := hF.slot 10 _ (by decide) rfl
          exact wp_value (w' := w') (ex_move rfl) ⟨_, rfl, x1, Ext.refl _⟩
        · refine duty_yes rfl (p := _) rfl (d := 85) rfl (show 85 < 156 by decide) ⟨⟨24, .guard⟩, by simp, rfl, rfl⟩ (fun v w h => h) fun a w' hE hF hA => ?_
          have x1 := hA.pick 26 87 (.pointer (some ⟨q, 0, none⟩)) rfl rfl ⟨⟨26, .data⟩, by simp, rfl, rfl⟩ (fun u h => h)
          exact wp_value (ex_nilCheck rfl _ x1) ⟨_, rfl, rfl, Ext.refl _⟩
        · refine duty_yes rfl (p := _) rfl (d := 85) rfl (show 85 < 156 by decide) ⟨⟨24, .guard⟩, by simp, rfl, rfl⟩ (fun v w h => h) fun a w' hE hF hA => ?_
          have x1 := hA.pick 27 88 (.pointer (some ⟨q, 0, none⟩)) rfl rfl ⟨⟨27, .data⟩, by simp, rfl, rfl⟩ (fun u h => h)
          exact wp_value (w' := w') (v := .pointer (some ⟨q, 0, none⟩)) (by simp only [execOp, x1]; simp [go_sem]) ⟨_, rfl, rfl, Ext.refl _⟩
        · refine duty_yes rfl (p := _) rfl (d := 85) rfl (show 85 < 156 by decide) ⟨⟨24, .guard⟩, by simp, rfl, rfl⟩ (fun v w h => h) fun a w' hE hF hA => ?_
          have x1 := hA.pick 28 89 (.pointer (some ⟨q, 0, none⟩)) rfl rfl ⟨⟨28, .data⟩, by simp, rfl, rfl⟩ (fun u h => h)
          exact wp_value (ex_cell rfl _ _ x1 ((hE.cell (World.block_lt_of_cell? _ _ HC2.out)).trans HC2.out) rfl Tryz.underlying50) ⟨_, rfl, rfl, Ext.refl _⟩
        · refine duty_yes rfl (p := _) rfl (d := 85) rfl (show 85 < 156 by decide) ⟨⟨24, .guard⟩, by simp, rfl, rfl⟩ (fun v w h => h) fun a w' hE hF hA => ?_
          have x1 := hA.pick 29 90 (.slice qa M2.length qc) rfl rfl ⟨⟨29, .data⟩, by simp, rfl, rfl⟩ (fun u h => h)
          exact wp_value (w' := w') (v := .int .i64 M2.length) (by simp only [execOp, resolve, invoke, builtin, Sem.run_bind, Sem.run_pure, Result.andThen_ok, List.map_toArray, List.map_cons, List.map_nil, x1]; simp [go_sem]) ⟨_, rfl, rfl, Ext.refl _⟩
        · refine duty_yes rfl (p := _) rfl (d := 85) rfl (show 85 < 156 by decide) ⟨⟨24, .guard⟩, by simp, rfl, rfl⟩ (fun v w h => h) fun a w' hE hF hA => ?_
          have x1 := hA.pick 25 86 (.pointer (some ⟨u, 0, none⟩)) rfl rfl ⟨⟨25, .data⟩, by simp, rfl, rfl⟩ (fun u h => h)
          have x2 := hA.pick 30 91 (.int .i64 M2.length) rfl rfl ⟨⟨30, .data⟩, by simp, rfl, rfl⟩ (fun u h => h)
          refine wp_enter (ex_call rfl (enters_f Tryz.func22 (by kernel_rfl) rfl)) (by simp only [List.map_toArray, List.map_cons, List.map_nil, x1, x2]; exact CA2.out w' hE) ?_
          rintro e w4 ⟨a2, c2, rfl, h2, hb⟩
          exact ⟨_, rfl, _, rfl, ⟨a2, c2, rfl, h2⟩, hb⟩
        · refine duty_yes rfl (p := _) rfl (d := 85) rfl (show 85 < 156 by decide) ⟨⟨24, .guard⟩, by simp, rfl, rfl⟩ (fun v w h => h) fun a w' hE hF hA => ?_
          have x1 := hF.slot 10 _ (by decide) rfl
          exact wp_value (w' := w') (ex_move rfl) ⟨_, rfl, x1, Ext.refl _⟩
        · refine duty_yes rfl (p := _) rfl (d := 85) rfl (show 85 < 156 by decide) ⟨⟨24, .guard⟩, by simp, rfl, rfl⟩ (fun v w h => h) fun a w' hE hF hA => ?_
          have x1 := hA.pick 32 93 (.pointer (some ⟨q, 0, none⟩)) rfl rfl ⟨⟨32, .data⟩, by simp, rfl, rfl⟩ (fun u h => h)
          exact wp_value (ex_nilCheck rfl _ x1) ⟨_, rfl, rfl, Ext.refl _⟩
        · refine duty_yes rfl (p := _) rfl (d := 85) rfl (show 85 < 156 by decide) ⟨⟨24, .guard⟩, by simp, rfl, rfl⟩ (fun v w h => h) fun a w' hE hF hA => ?_
          have x1 := hA.pick 33 94 (.pointer (some ⟨q, 0, none⟩)) rfl rfl ⟨⟨33, .data⟩, by simp, rfl, rfl⟩ (fun u h => h)
          exact wp_value (w' := w') (v := .pointer (some ⟨q, 0, none⟩)) (by simp only [execOp, x1]; simp [go_sem]) ⟨_, rfl, rfl, Ext.refl _⟩
        · refine duty_yes rfl (p := _) rfl (d := 85) rfl (show 85 < 156 by decide) ⟨⟨24, .guard⟩, by simp, rfl, rfl⟩ (fun v w h => h) fun a w' hE hF hA => ?_
          have x1 := hA.pick 34 95 (.pointer (some ⟨q, 0, none⟩)) rfl rfl ⟨⟨34, .data⟩, by simp, rfl, rfl⟩ (fun u h => h)
          exact wp_value (ex_cell rfl _ _ x1 ((hE.cell (World.block_lt_of_cell? _ _ HC2.out)).trans HC2.out) rfl Tryz.underlying50) ⟨_, rfl, rfl, Ext.refl _⟩
        · refine duty_yes rfl (p := _) rfl (d := 85) rfl (show 85 < 156 by decide) ⟨⟨24, .guard⟩, by simp, rfl, rfl⟩ (fun v w h => h) fun a w' hE hF hA => ?_
          have p1 : (PNd M2) (a.eval (.tmp 92)) w' := hA.slot 31 92 rfl rfl ⟨⟨31, .data⟩, by simp, rfl, rfl⟩
          have x2 := hA.pick 35 96 (.slice qa M2.length qc) rfl rfl ⟨⟨35, .data⟩, by simp, rfl, rfl⟩ (fun u h => h)
          obtain ⟨a2, c2, x1, h2⟩ := p1
          refine wp_enter (ex_call rfl (enters_f Tryz.func21 (by kernel_rfl) rfl)) (by simp only [List.map_toArray, List.map_cons, List.map_nil, x1, x2]; exact CN2.out w' hE a2 c2 h2) ?_
          rintro e w4 ⟨rfl, hb⟩
          exact ⟨_, rfl, _, rfl, rfl, hb⟩
        · refine duty_free rfl fun a w' hE hF hA => ?_
          have x1 := hA.pick 24 85 (.bool true) rfl rfl ⟨⟨24, .data⟩, by simp, rfl, rfl⟩ (fun u h => h)
          have x2 := hA.pick 36 97 (.bool true) rfl rfl ⟨⟨36, .data⟩, by simp, rfl, rfl⟩ (fun u h => h)
          exact wp_value (w' := w') (ex_pick rfl x1) ⟨_, rfl, x2, Ext.refl _⟩
        · refine duty_free rfl fun a w' hE hF hA => ?_
          have x1 := hA.pick 37 98 (.bool true) rfl rfl ⟨⟨37, .data⟩, by simp, rfl, rfl⟩ (fun u h => h)
          exact wp_value (w' := w') (ex_move rfl) ⟨_, rfl, x1, Ext.refl _⟩
        · refine duty_yes rfl (p := _) rfl (d := 99) rfl (show 99 < 156 by decide) ⟨⟨38, .guard⟩, by simp, rfl, rfl⟩ (fun v w h => h) fun a w' hE hF hA => ?_
          have x1 := hF.slot 7 _ (by decide) rfl
          exact wp_value (w' := w') (ex_move rfl) ⟨_, rfl, x1, Ext.refl _⟩
        · refine duty_yes rfl (p := _) rfl (d := 99) rfl (show 99 < 156 by decide) ⟨⟨38, .guard⟩, by simp, rfl, rfl⟩ (fun v w h => h) fun a w' hE hF hA => ?_
          have x1 := hA.pick 39 100 (.pointer (some ⟨t, 0, none⟩)) rfl rfl ⟨⟨39, .data⟩, by simp, rfl, rfl⟩ (fun u h => h)
          refine wp_enter (ex_call rfl (enters_f Tryz.func23 (by kernel_rfl) rfl)) (by simp only [List.map_toArray, List.map_cons, List.map_nil, x1]; exact CC.out w' hE) ?_; rintro e w4 ⟨rfl, rfl⟩; exact ⟨_, rfl, _, rfl, rfl, Ext.refl _⟩
        · refine duty_yes rfl (p := _) rfl (d := 99) rfl (show 99 < 156 by decide) ⟨⟨38, .guard⟩, by simp, rfl, rfl⟩ (fun v w h => h) fun a w' hE hF hA => ?_
          have x1 := hF.slot 9 _ (by decide) rfl
          exact wp_value (w' := w') (ex_move rfl) ⟨_, rfl, x1, Ext.refl _⟩
        · refine duty_yes rfl (p := _) rfl (d := 99) rfl (show 99 < 156 by decide) ⟨⟨38, .guard⟩, by simp, rfl, rfl⟩ (fun v w h => h) fun a w' hE hF hA => ?_
          have x1 := hA.pick 41 102 (.pointer (some ⟨r, 0, none⟩)) rfl rfl ⟨⟨41, .data⟩, by simp, rfl, rfl⟩ (fun u h => h)
          exact wp_value (ex_nilCheck rfl _ x1) ⟨_, rfl, rfl, Ext.refl _⟩
        · refine duty_yes rfl (p := _) rfl (d := 99) rfl (show 99 < 156 by decide) ⟨⟨38, .guard⟩, by simp, rfl, rfl⟩ (fun v w h => h) fun a w' hE hF hA => ?_
          have x1 := hA.pick 42 103 (.pointer (some ⟨r, 0, none⟩)) rfl rfl ⟨⟨42, .data⟩, by simp, rfl, rfl⟩ (fun u h => h)
          exact wp_value (w' := w') (v := .pointer (some ⟨r, 0, none⟩)) (by simp only [execOp, x1]; simp [go_sem]) ⟨_, rfl, rfl, Ext.refl _⟩
        · refine duty_yes rfl (p := _) rfl (d := 99) rfl (show 99 < 156 by decide) ⟨⟨38, .guard⟩, by simp, rfl, rfl⟩ (fun v w h => h) fun a w' hE hF hA => ?_
          have x1 := hA.pick 43 104 (.pointer (some ⟨r, 0, none⟩)) rfl rfl ⟨⟨43, .data⟩, by simp, rfl, rfl⟩ (fun u h => h)
          exact wp_value (ex_cell rfl _ _ x1 ((hE.cell (World.block_lt_of_cell? _ _ HC1.out)).trans HC1.out) rfl Tryz.underlying50) ⟨_, rfl, rfl, Ext.refl _⟩
        · refine duty_yes rfl (p := _) rfl (d := 99) rfl (show 99 < 156 by decide) ⟨⟨38, .guard⟩, by simp, rfl, rfl⟩ (fun v w h => h) fun a w' hE hF hA => ?_
          have x1 := hA.pick 44 105 (.slice ra M1.length rc) rfl rfl ⟨⟨44, .data⟩, by simp, rfl, rfl⟩ (fun u h => h)
          exact wp_value (w' := w') (v := .int .i64 M1.length) (by simp only [execOp, resolve, invoke, builtin, Sem.run_bind, Sem.run_pure, Result.andThen_ok, List.map_toArray, List.map_cons, List.map_nil, x1]; simp [go_sem]) ⟨_, rfl, rfl, Ext.refl _⟩
        · refine duty_yes rfl (p := _) rfl (d := 99) rfl (show 99 < 156 by decide) ⟨⟨38, .guard⟩, by simp, rfl, rfl⟩ (fun v w h => h) fun a w' hE hF hA => ?_
          have x1 := hA.pick 40 101 (.int .i64 M1.length) rfl rfl ⟨⟨40, .data⟩, by simp, rfl, rfl⟩ (fun u h => h)
          have x2 := hA.pick 45 106 (.int .i64 M1.length) rfl rfl ⟨⟨45, .data⟩, by simp, rfl, rfl⟩ (fun u h => h)
          exact wp_value (w' := w') (v := .bool true) (by simp only [execOp, x1, x2]; simp [go_sem]) ⟨_, rfl, rfl, Ext.refl _⟩
        · refine duty_free rfl fun a w' hE hF hA => ?_
          have x1 := hA.pick 38 99 (.bool true) rfl rfl ⟨⟨38, .data⟩, by simp, rfl, rfl⟩ (fun u h => h)
          have x2 := hA.pick 46 107 (.bool true) rfl rfl ⟨⟨46, .data⟩, by simp, rfl, rfl⟩ (fun u h => h)
          exact wp_value (w' := w') (ex_pick rfl x1) ⟨_, rfl, x2, Ext.refl _⟩
        · refine duty_free rfl fun a w' hE hF hA => ?_
          have x1 := hA.pick 47 108 (.bool true) rfl rfl ⟨⟨47, .data⟩, by simp, rfl, rfl⟩ (fun u h => h)
          exact wp_value (w' := w') (ex_move rfl) ⟨_, rfl, x1, Ext.refl _⟩
        · refine duty_yes rfl (p := _) rfl (d := 109) rfl (show 109 < 156 by decide) ⟨⟨48, .guard⟩, by simp, rfl, rfl⟩ (fun v w h => h) fun a w' hE hF hA => ?_
          have x1 := hF.slot 7 _ (by decide) rfl
          exact wp_value (w' := w') (ex_move rfl) ⟨_, rfl, x1, Ext.refl _⟩
        · refine duty_yes rfl (p := _) rfl (d := 109) rfl (show 109 < 156 by decide) ⟨⟨48, .guard⟩, by simp, rfl, rfl⟩ (fun v w h => h) fun a w' hE hF hA => ?_
          have x1 := hF.slot 2 _ (by decide) rfl
          exact wp_value (w' := w') (ex_move rfl) ⟨_, rfl, x1, Ext.refl _⟩
        · refine duty_yes rfl (p := _) rfl (d := 109) rfl (show 109 < 156 by decide) ⟨⟨48, .guard⟩, by simp, rfl, rfl⟩ (fun v w h => h) fun a w' hE hF hA => ?_
          have x1 := hA.pick 49 110 (.pointer (some ⟨t, 0, none⟩)) rfl rfl ⟨⟨49, .data⟩, by simp, rfl, rfl⟩ (fun u h => h)
          have x2 := hA.pick 50 111 (.int .i64 z) rfl rfl ⟨⟨50, .data⟩, by simp, rfl, rfl⟩ (fun u h => h)
          refine wp_enter (ex_call rfl (enters_f Tryz.func25 (by kernel_rfl) rfl)) (by simp only [List.map_toArray, List.map_cons, List.map_nil, x1, x2]; exact CO1.out w' hE) ?_
          rintro e w4 ⟨a2, c2, rfl, h2, hb⟩
          exact ⟨_, rfl, _, rfl, ⟨a2, c2, rfl, h2⟩, hb⟩
        · refine duty_yes rfl (p := _) rfl (d := 109) rfl (show 109 < 156 by decide) ⟨⟨48, .guard⟩, by simp, rfl, rfl⟩ (fun v w h => h) fun a w' hE hF hA => ?_
          have x1 := hF.slot 9 _ (by decide) rfl
          exact wp_value (w' := w') (ex_move rfl) ⟨_, rfl, x1, Ext.refl _⟩
        · refine duty_yes rfl (p := _) rfl (d := 109) rfl (show 109 < 156 by decide) ⟨⟨48, .guard⟩, by simp, rfl, rfl⟩ (fun v w h => h) fun a w' hE hF hA => ?_
          have x1 := hF.slot 2 _ (by decide) rfl
          exact wp_value (w' := w') (ex_move rfl) ⟨_, rfl, x1, Ext.refl _⟩
        · refine duty_yes rfl (p := _) rfl (d := 109) rfl (show 109 < 156 by decide) ⟨⟨48, .guard⟩, by simp, rfl, rfl⟩ (fun v w h => h) fun a w' hE hF hA => ?_
          have x1 := hA.pick 52 113 (.pointer (some ⟨r, 0, none⟩)) rfl rfl ⟨⟨52, .data⟩, by simp, rfl, rfl⟩ (fun u h => h)
          have x2 := hA.pick 53 114 (.int .i64 z) rfl rfl ⟨⟨53, .data⟩, by simp, rfl, rfl⟩ (fun u h => h)
          refine wp_enter (ex_call rfl (enters_f Tryz.func26 (by kernel_rfl) rfl)) (by simp only [List.map_toArray, List.map_cons, List.map_nil, x1, x2]; exact CO2.out w' hE) ?_
          rintro e w4 ⟨a2, c2, rfl, h2, hb⟩
          exact ⟨_, rfl, _, rfl, ⟨a2, c2, rfl, h2⟩, hb⟩
        · refine duty_yes rfl (p := _) rfl (d := 109) rfl (show 109 < 156 by decide) ⟨⟨48, .guard⟩, by simp, rfl, rfl⟩ (fun v w h => h) fun a w' hE hF hA => ?_
          have p1 : (PStr (someL M1 (ownP z))) (a.eval (.tmp 112)) w' := hA.slot 51 112 rfl rfl ⟨⟨51, .data⟩, by simp, rfl, rfl⟩
          have p2 : (PStr (someL M1 (ownP z))) (a.eval (.tmp 115)) w' := hA.slot 54 115 rfl rfl ⟨⟨54, .data⟩, by simp, rfl, rfl⟩
          obtain ⟨a2, c2, x1, h2⟩ := p1
          obtain ⟨a3, c3, x2, h3⟩ := p2
          refine wp_enter (ex_call rfl (enters_f Tryz.func24 (by kernel_rfl) rfl)) (by simp only [List.map_toArray, List.map_cons, List.map_nil, x1, x2]; exact texts_self _ a2 a3 c2 c3 w' h2 h3 (Nat.le_trans (someL_le _ _) hl64)) ?_
          rintro e w4 ⟨rfl, hb⟩
          exact ⟨_, rfl, _, rfl, rfl, hb⟩
        · refine duty_free rfl fun a w' hE hF hA => ?_
          have x1 := hA.pick 48 109 (.bool true) rfl rfl ⟨⟨48, .data⟩, by simp, rfl, rfl⟩ (fun u h => h)
          have x2 := hA.pick 55 116 (.bool true) rfl rfl ⟨⟨55, .data⟩, by simp, rfl, rfl⟩ (fun u h => h)
          exact wp_value (w' := w') (ex_pick rfl x1) ⟨_, rfl, x2, Ext.refl _⟩
        · refine duty_free rfl fun a w' hE hF hA => ?_
          have x1 := hA.pick 56 117 (.bool true) rfl rfl ⟨⟨56, .data⟩, by simp, rfl, rfl⟩ (fun u h => h)
          exact wp_value (w' := w') (ex_move rfl) ⟨_, rfl, x1, Ext.refl _⟩
        · refine duty_yes rfl (p := _) rfl (d := 118) rfl (show 118 < 156 by decide) ⟨⟨57, .guard⟩, by simp, rfl, rfl⟩ (fun v w h => h) fun a w' hE hF hA => ?_
          have x1 := hF.slot 7 _ (by decide) rfl
          exact wp_value (w' := w') (ex_move rfl) ⟨_, rfl, x1, Ext.refl _⟩
        · refine duty_yes rfl (p := _) rfl (d := 118) rfl (show 118 < 156 by decide) ⟨⟨57, .guard⟩, by simp, rfl, rfl⟩ (fun v w h => h) fun a w' hE hF hA => ?_
          have x1 := hA.pick 58 119 (.pointer (some ⟨t, 0, none⟩)) rfl rfl ⟨⟨58, .data⟩, by simp, rfl, rfl⟩ (fun u h => h)
          refine wp_enter (ex_call rfl (enters_f Tryz.func27 (by kernel_rfl) rfl)) (by simp only [List.map_toArray, List.map_cons, List.map_nil, x1]; exact CI1.out w' hE) ?_
          rintro e w4 ⟨a2, c2, rfl, h2, hb⟩
          exact ⟨_, rfl, _, rfl, ⟨a2, c2, rfl, h2⟩, hb⟩
        · refine duty_yes rfl (p := _) rfl (d := 118) rfl (show 118 < 156 by decide) ⟨⟨57, .guard⟩, by simp, rfl, rfl⟩ (fun v w h => h) fun a w' hE hF hA => ?_
          have x1 := hF.slot 9 _ (by decide) rfl
          exact wp_value (w' := w') (ex_move rfl) ⟨_, rfl, x1, Ext.refl _⟩
        · refine duty_yes rfl (p := _) rfl (d := 118) rfl (show 118 < 156 by decide) ⟨⟨57, .guard⟩, by simp, rfl, rfl⟩ (fun v w h => h) fun a w' hE hF hA => ?_
          have x1 := hA.pick 60 121 (.pointer (some ⟨r, 0, none⟩)) rfl rfl ⟨⟨60, .data⟩, by simp, rfl, rfl⟩ (fun u h => h)
          refine wp_enter (ex_call rfl (enters_f Tryz.func28 (by kernel_rfl) rfl)) (by simp only [List.map_toArray, List.map_cons, List.map_nil, x1]; exact CI2.out w' hE) ?_
          rintro e w4 ⟨a2, c2, rfl, h2, hb⟩
          exact ⟨_, rfl, _, rfl, ⟨a2, c2, rfl, h2⟩, hb⟩
        · refine duty_yes rfl (p := _) rfl (d := 118) rfl (show 118 < 156 by decide) ⟨⟨57, .guard⟩, by simp, rfl, rfl⟩ (fun v w h => h) fun a w' hE hF hA => ?_
          have p1 : (PStr (someL M1 (idleP M1))) (a.eval (.tmp 120)) w' := hA.slot 59 120 rfl rfl ⟨⟨59, .data⟩, by simp, rfl, rfl⟩
          have p2 : (PStr (someL M1 (idleP M1))) (a.eval (.tmp 122)) w' := hA.slot 61 122 rfl rfl ⟨⟨61, .data⟩, by simp, rfl, rfl⟩
          obtain ⟨a2, c2, x1, h2⟩ := p1
          obtain ⟨a3, c3, x2, h3⟩ := p2
          refine wp_enter (ex_call rfl (enters_f Tryz.func24 (by kernel_rfl) rfl)) (by simp only [List.map_toArray, List.map_cons, List.map_nil, x1, x2]; exact texts_self _ a2 a3 c2 c3 w' h2 h3 (Nat.le_trans (someL_le _ _) hl64)) ?_
          rintro e w4 ⟨rfl, hb⟩
          exact ⟨_, rfl, _, rfl, rfl, hb⟩
        · refine duty_free rfl fun a w' hE hF hA => ?_
          have x1 := hA.pick 57 118 (.bool true) rfl rfl ⟨⟨57, .data⟩, by simp, rfl, rfl⟩ (fun u h => h)
          have x2 := hA.pick 62 123 (.bool true) rfl rfl ⟨⟨62, .data⟩, by simp, rfl, rfl⟩ (fun u h => h)
          exact wp_value (w' := w') (ex_pick rfl x1) ⟨_, rfl, x2, Ext.refl _⟩
        · refine duty_free rfl fun a w' hE hF hA => ?_
          have x1 := hA.pick 63 124 (.bool true) rfl rfl ⟨⟨63, .data⟩, by simp, rfl, rfl⟩ (fun u h => h)
          exact wp_value (w' := w') (ex_move rfl) ⟨_, rfl, x1, Ext.refl _⟩
        · refine duty_yes rfl (p := _) rfl (d := 125) rfl (show 125 < 156 by decide) ⟨⟨64, .guard⟩, by simp, rfl, rfl⟩ (fun v w h => h) fun a w' hE hF hA => ?_
          have x1 := hF.slot 7 _ (by decide) rfl
          exact wp_value (w' := w') (ex_move rfl) ⟨_, rfl, x1, Ext.refl _⟩
        · refine duty_yes rfl (p := _) rfl (d := 125) rfl (show 125 < 156 by decide) ⟨⟨64, .guard⟩, by simp, rfl, rfl⟩ (fun v w h => h) fun a w' hE hF hA => ?_
          have x1 := hF.slot 2 _ (by decide) rfl
          exact wp_value (w' := w') (ex_move rfl) ⟨_, rfl, x1, Ext.refl _⟩
        · refine duty_yes rfl (p := _) rfl (d := 125) rfl (show 125 < 156 by decide) ⟨⟨64, .guard⟩, by simp, rfl, rfl⟩ (fun v w h => h) fun a w' hE hF hA => ?_
          have x1 := hA.pick 65 126 (.pointer (some ⟨t, 0, none⟩)) rfl rfl ⟨⟨65, .data⟩, by simp, rfl, rfl⟩ (fun u h => h)
          have x2 := hA.pick 66 127 (.int .i64 z) rfl rfl ⟨⟨66, .data⟩, by simp, rfl, rfl⟩ (fun u h => h)
          refine wp_enter (ex_call rfl (enters_f Tryz.func29 (by kernel_rfl) rfl)) (by simp only [List.map_toArray, List.map_cons, List.map_nil, x1, x2]; exact CG1.out w' hE) ?_
          rintro e w4 ⟨a2, c2, rfl, h2, hb⟩
          exact ⟨_, rfl, _, rfl, ⟨a2, c2, rfl, h2⟩, hb⟩
        · refine duty_yes rfl (p := _) rfl (d := 125) rfl (show 125 < 156 by decide) ⟨⟨64, .guard⟩, by simp, rfl, rfl⟩ (fun v w h => h) fun a w' hE hF hA => ?_
          have x1 := hF.slot 9 _ (by decide) rfl
          exact wp_value (w' := w') (ex_move rfl) ⟨_, rfl, x1, Ext.refl _⟩
        · refine duty_yes rfl (p := _) rfl (d := 125) rfl (show 125 < 156 by decide) ⟨⟨64, .guard⟩, by simp, rfl, rfl⟩ (fun v w h => h) fun a w' hE hF hA => ?_
          have x1 := hF.slot 2 _ (by decide) rfl
          exact wp_value (w' := w') (ex_move rfl) ⟨_, rfl, x1, Ext.refl _⟩
        · refine duty_yes rfl (p := _) rfl (d := 125) rfl (show 125 < 156 by decide) ⟨⟨64, .guard⟩, by simp, rfl, rfl⟩ (fun v w h => h) fun a w' hE hF hA => ?_
          have x1 := hA.pick 68 129 (.pointer (some ⟨r, 0, none⟩)) rfl rfl ⟨⟨68, .data⟩, by simp, rfl, rfl⟩ (fun u h => h)
          have x2 := hA.pick 69 130 (.int .i64 z) rfl rfl ⟨⟨69, .data⟩, by simp, rfl, rfl⟩ (fun u h => h)
          refine wp_enter (ex_call rfl (enters_f Tryz.func30 (by kernel_rfl) rfl)) (by simp only [List.map_toArray, List.map_cons, List.map_nil, x1, x2]; exact CG2.out w' hE) ?_
          rintro e w4 ⟨a2, c2, rfl, h2, hb⟩
          exact ⟨_, rfl, _, rfl, ⟨a2, c2, rfl, h2⟩, hb⟩
        · refine duty_yes rfl (p := _) rfl (d := 125) rfl (show 125 < 156 by decide) ⟨⟨64, .guard⟩, by simp, rfl, rfl⟩ (fun v w h => h) fun a w' hE hF hA => ?_
          have p1 : (PStr (someL M1 (agedP M1 z))) (a.eval (.tmp 128)) w' := hA.slot 67 128 rfl rfl ⟨⟨67, .data⟩, by simp, rfl, rfl⟩
          have p2 : (PStr (someL M1 (agedP M1 z))) (a.eval (.tmp 131)) w' := hA.slot 70 131 rfl rfl ⟨⟨70, .data⟩, by simp, rfl, rfl⟩
          obtain ⟨a2, c2, x1, h2⟩ := p1
          obtain ⟨a3, c3, x2, h3⟩ := p2
          refine wp_enter (ex_call rfl (enters_f Tryz.func24 (by kernel_rfl) rfl)) (by simp only [List.map_toArray, List.map_cons, List.map_nil, x1, x2]; exact texts_self _ a2 a3 c2 c3 w' h2 h3 (Nat.le_trans (someL_le _ _) hl64)) ?_
          rintro e w4 ⟨rfl, hb⟩
          exact ⟨_, rfl, _, rfl, rfl, hb⟩
        · refine duty_free rfl fun a w' hE hF hA => ?_
          have x1 := hA.pick 64 125 (.bool true) rfl rfl ⟨⟨64, .data⟩, by simp, rfl, rfl⟩ (fun u h => h)
          have x2 := hA.pick 71 132 (.bool true) rfl rfl ⟨⟨71, .data⟩, by simp, rfl, rfl⟩ (fun u h => h)
          exact wp_value (w' := w') (ex_pick rfl x1) ⟨_, rfl, x2, Ext.refl _⟩
        · refine duty_free rfl fun a w' hE hF hA => ?_
          have x1 := hA.pick 72 133 (.bool true) rfl rfl ⟨⟨72, .data⟩, by simp, rfl, rfl⟩ (fun u h => h)
          exact wp_value (w' := w') (ex_move rfl) ⟨_, rfl, x1, Ext.refl _⟩
        · refine duty_yes rfl (p := _) rfl (d := 134) rfl (show 134 < 156 by decide) ⟨⟨73, .guard⟩, by simp, rfl, rfl⟩ (fun v w h => h) fun a w' hE hF hA => ?_
          have x1 := hF.slot 7 _ (by decide) rfl
          exact wp_value (w' := w') (ex_move rfl) ⟨_, rfl, x1, Ext.refl _⟩
        · refine duty_yes rfl (p := _) rfl (d := 134) rfl (show 134 < 156 by decide) ⟨⟨73, .guard⟩, by simp, rfl, rfl⟩ (fun v w h => h) fun a w' hE hF hA => ?_
          have x1 := hA.pick 74 135 (.pointer (some ⟨t, 0, none⟩)) rfl rfl ⟨⟨74, .data⟩, by simp, rfl, rfl⟩ (fun u h => h)
          refine wp_enter (ex_call rfl (enters_f Tryz.func29 (by kernel_rfl) rfl)) (by simp only [List.map_toArray, List.map_cons, List.map_nil, x1]; exact CH1.out w' hE) ?_
          rintro e w4 ⟨a2, c2, rfl, h2, hb⟩
          exact ⟨_, rfl, _, rfl, ⟨a2, c2, rfl, h2⟩, hb⟩
        · refine duty_yes rfl (p := _) rfl (d := 134) rfl (show 134 < 156 by decide) ⟨⟨73, .guard⟩, by simp, rfl, rfl⟩ (fun v w h => h) fun a w' hE hF hA => ?_
          have x1 := hF.slot 9 _ (by decide) rfl
          exact wp_value (w' := w') (ex_move rfl) ⟨_, rfl, x1, Ext.refl _⟩
        · refine duty_yes rfl (p := _) rfl (d := 134) rfl (show 134 < 156 by decide) ⟨⟨73, .guard⟩, by simp, rfl, rfl⟩ (fun v w h => h) fun a w' hE hF hA => ?_
          have x1 := hA.pick 76 137 (.pointer (some ⟨r, 0, none⟩)) rfl rfl ⟨⟨76, .data⟩, by simp, rfl, rfl⟩ (fun u h => h)
          refine wp_enter (ex_call rfl (enters_f Tryz.func30 (by kernel_rfl) rfl)) (by simp only [List.map_toArray, List.map_cons, List.map_nil, x1]; exact CH2.out w' hE) ?_
          rintro e w4 ⟨a2, c2, rfl, h2, hb⟩
          exact ⟨_, rfl, _, rfl, ⟨a2, c2, rfl, h2⟩, hb⟩
        · refine duty_yes rfl (p := _) rfl (d := 134) rfl (show 134 < 156 by decide) ⟨⟨73, .guard⟩, by simp, rfl, rfl⟩ (fun v w h => h) fun a w' hE hF hA => ?_
          have p1 : (PStr (someL M1 (agedP M1 1125899906842624))) (a.eval (.tmp 136)) w' := hA.slot 75 136 rfl rfl ⟨⟨75, .data⟩, by simp, rfl, rfl⟩
          have p2 : (PStr (someL M1 (agedP M1 1125899906842624))) (a.eval (.tmp 138)) w' := hA.slot 77 138 rfl rfl ⟨⟨77, .data⟩, by simp, rfl, rfl⟩
          obtain ⟨a2, c2, x1, h2⟩ := p1
          obtain ⟨a3, c3, x2, h3⟩ := p2
          refine wp_enter (ex_call rfl (enters_f Tryz.func24 (by kernel_rfl) rfl)) (by simp only [List.map_toArray, List.map_cons, List.map_nil, x1, x2]; exact texts_self _ a2 a3 c2 c3 w' h2 h3 (Nat.le_trans (someL_le _ _) hl64)) ?_
          rintro e w4 ⟨rfl, hb⟩
          exact ⟨_, rfl, _, rfl, rfl, hb⟩
        · refine duty_free rfl fun a w' hE hF hA => ?_
          have x1 := hA.pick 73 134 (.bool true) rfl rfl ⟨⟨73, .data⟩, by simp, rfl, rfl⟩ (fun u h => h)
          have x2 := hA.pick 78 139 (.bool true) rfl rfl ⟨⟨78, .data⟩, by simp, rfl, rfl⟩ (fun u h => h)
          exact wp_value (w' := w') (ex_pick rfl x1) ⟨_, rfl, x2, Ext.refl _⟩
        · refine duty_free rfl fun a w' hE hF hA => ?_
          have x1 := hA.pick 79 140 (.bool true) rfl rfl ⟨⟨79, .data⟩, by simp, rfl, rfl⟩ (fun u h => h)
          exact wp_value (w' := w') (ex_move rfl) ⟨_, rfl, x1, Ext.refl _⟩
        · refine duty_yes rfl (p := _) rfl (d := 141) rfl (show 141 < 156 by decide) ⟨⟨80, .guard⟩, by simp, rfl, rfl⟩ (fun v w h => h) fun a w' hE hF hA => ?_
          have x1 := hF.slot 7 _ (by decide) rfl
          exact wp_value (w' := w') (ex_move rfl) ⟨_, rfl, x1, Ext.refl _⟩
        · refine duty_yes rfl (p := _) rfl (d := 141) rfl (show 141 < 156 by decide) ⟨⟨80, .guard⟩, by simp, rfl, rfl⟩ (fun v w h => h) fun a w' hE hF hA => ?_
          have x1 := hF.slot 8 _ (by decide) rfl
          exact wp_value (w' := w') (ex_move rfl) ⟨_, rfl, x1, Ext.refl _⟩
        · refine duty_yes rfl (p := _) rfl (d := 141) rfl (show 141 < 156 by decide) ⟨⟨80, .guard⟩, by simp, rfl, rfl⟩ (fun v w h => h) fun a w' hE hF hA => ?_
          have x1 := hA.pick 81 142 (.pointer (some ⟨t, 0, none⟩)) rfl rfl ⟨⟨81, .data⟩, by simp, rfl, rfl⟩ (fun u h => h)
          have x2 := hA.pick 82 143 (.pointer (some ⟨u, 0, none⟩)) rfl rfl ⟨⟨82, .data⟩, by simp, rfl, rfl⟩ (fun u h => h)
          refine wp_enter (ex_call rfl (enters_f Tryz.func31 (by kernel_rfl) rfl)) (by simp only [List.map_toArray, List.map_cons, List.map_nil, x1, x2]; exact CS1.out w' hE) ?_
          rintro e w4 ⟨rfl, hb⟩
          exact ⟨_, rfl, _, rfl, rfl, hb⟩
        · refine duty_yes rfl (p := _) rfl (d := 141) rfl (show 141 < 156 by decide) ⟨⟨80, .guard⟩, by simp, rfl, rfl⟩ (fun v w h => h) fun a w' hE hF hA => ?_
          have x1 := hF.slot 9 _ (by decide) rfl
          exact wp_value (w' := w') (ex_move rfl) ⟨_, rfl, x1, Ext.refl _⟩
        · refine duty_yes rfl (p := _) rfl (d := 141) rfl (show 141 < 156 by decide) ⟨⟨80, .guard⟩, by simp, rfl, rfl⟩ (fun v w h => h) fun a w' hE hF hA => ?_
          have x1 := hF.slot 10 _ (by decide) rfl
          exact wp_value (w' := w') (ex_move rfl) ⟨_, rfl, x1, Ext.refl _⟩
        · refine duty_yes rfl (p := _) rfl (d := 141) rfl (show 141 < 156 by decide) ⟨⟨80, .guard⟩, by simp, rfl, rfl⟩ (fun v w h => h) fun a w' hE hF hA => ?_
          have x1 := hA.pick 84 145 (.pointer (some ⟨r, 0, none⟩)) rfl rfl ⟨⟨84, .data⟩, by simp, rfl, rfl⟩ (fun u h => h)
          have x2 := hA.pick 85 146 (.pointer (some ⟨q, 0, none⟩)) rfl rfl ⟨⟨85, .data⟩, by simp, rfl, rfl⟩ (fun u h => h)
          refine wp_enter (ex_call rfl (enters_f Tryz.func32 (by kernel_rfl) rfl)) (by simp only [List.map_toArray, List.map_cons, List.map_nil, x1, x2]; exact CS2.out w' hE) ?_
          rintro e w4 ⟨rfl, hb⟩
          exact ⟨_, rfl, _, rfl, rfl, hb⟩
        · refine duty_yes rfl (p := _) rfl (d := 141) rfl (show 141 < 156 by decide) ⟨⟨80, .guard⟩, by simp, rfl, rfl⟩ (fun v w h => h) fun a w' hE hF hA => ?_
          have x1 := hA.pick 83 144 (.bool sb) rfl rfl ⟨⟨83, .data⟩, by simp, rfl, rfl⟩ (fun u h => h)
          have x2 := hA.pick 86 147 (.bool sb) rfl rfl ⟨⟨86, .data⟩, by simp, rfl, rfl⟩ (fun u h => h)
          exact wp_value (w' := w') (v := .bool true) (by simp only [execOp, x1, x2]; simp [go_sem, hsb]) ⟨_, rfl, rfl, Ext.refl _⟩
        · refine duty_free rfl fun a w' hE hF hA => ?_
          have x1 := hA.pick 80 141 (.bool true) rfl rfl ⟨⟨80, .data⟩, by simp, rfl, rfl⟩ (fun u h => h)
          have x2 := hA.pick 87 148 (.bool true) rfl rfl ⟨⟨87, .data⟩, by simp, rfl, rfl⟩ (fun u h => h)
          exact wp_value (w' := w') (ex_pick rfl x1) ⟨_, rfl, x2, Ext.refl _⟩
        · refine duty_free rfl fun a w' hE hF hA => ?_
          have x1 := hA.pick 88 149 (.bool true) rfl rfl ⟨⟨88, .data⟩, by simp, rfl, rfl⟩ (fun u h => h)
          exact wp_value (w' := w') (ex_move rfl) ⟨_, rfl, x1, Ext.refl _⟩
        · refine duty_yes rfl (p := _) rfl (d := 150) rfl (show 150 < 156 by decide) ⟨⟨89, .guard⟩, by simp, rfl, rfl⟩ (fun v w h => h) fun a w' hE hF hA => ?_
          have x1 := hF.slot 7 _ (by decide) rfl
          exact wp_value (w' := w') (ex_move rfl) ⟨_, rfl, x1, Ext.refl _⟩
        · refine duty_yes rfl (p := _) rfl (d := 150) rfl (show 150 < 156 by decide) ⟨⟨89, .guard⟩, by simp, rfl, rfl⟩ (fun v w h => h) fun a w' hE hF hA => ?_
          have x1 := hF.slot 7 _ (by decide) rfl
          exact wp_value (w' := w') (ex_move rfl) ⟨_, rfl, x1, Ext.refl _⟩
        · refine duty_yes rfl (p := _) rfl (d := 150) rfl (show 150 < 156 by decide) ⟨⟨89, .guard⟩, by simp, rfl, rfl⟩ (fun v w h => h) fun a w' hE hF hA => ?_
          have x1 := hA.pick 91 152 (.pointer (some ⟨t, 0, none⟩)) rfl rfl ⟨⟨91, .data⟩, by simp, rfl, rfl⟩ (fun u h => h)
          refine wp_enter (ex_call rfl (enters_f Tryz.func17 (by kernel_rfl) rfl)) (by simp only [List.map_toArray, List.map_cons, List.map_nil, x1]; exact CT.out w' hE) ?_
          rintro e w4 ⟨b2, rfl, h2, hb⟩
          exact ⟨_, rfl, _, rfl, ⟨b2, _, rfl, h2⟩, hb⟩
        · refine duty_yes rfl (p := _) rfl (d := 150) rfl (show 150 < 156 by decide) ⟨⟨89, .guard⟩, by simp, rfl, rfl⟩ (fun v w h => h) fun a w' hE hF hA => ?_
          have x1 := hA.pick 90 151 (.pointer (some ⟨t, 0, none⟩)) rfl rfl ⟨⟨90, .data⟩, by simp, rfl, rfl⟩ (fun u h => h)
          have p2 : (PTree M1) (a.eval (.tmp 153)) w' := hA.slot 92 153 rfl rfl ⟨⟨92, .data⟩, by simp, rfl, rfl⟩
          obtain ⟨b2, S9, x2, h2⟩ := p2
          refine wp_enter (ex_call rfl (enters_f Tryz.func31 (by kernel_rfl) rfl)) (by simp only [List.map_toArray, List.map_cons, List.map_nil, x1, x2]; exact CSS.out w' hE b2 S9 h2) ?_
          rintro e w4 ⟨rfl, hb⟩
          exact ⟨_, rfl, _, rfl, rfl, hb⟩
        · refine duty_free rfl fun a w' hE hF hA => ?_
          have x1 := hA.pick 89 150 (.bool true) rfl rfl ⟨⟨89, .data⟩, by simp, rfl, rfl⟩ (fun u h => h)
          have x2 := hA.pick 93 154 (.bool true) rfl rfl ⟨⟨93, .data⟩, by simp, rfl, rfl⟩ (fun u h => h)
          exact wp_value (w' := w') (ex_pick rfl x1) ⟨_, rfl, x2, Ext.refl _⟩
        · refine duty_free rfl fun a w' hE hF hA => ?_
          have x1 := hA.pick 94 155 (.bool true) rfl rfl ⟨⟨94, .data⟩, by simp, rfl, rfl⟩ (fun u h => h)
          exact wp_value (w' := w') (ex_assign rfl) ⟨_, rfl, x1, Ext.refl _⟩
      case stay => exact ⟨pnd_stay _, pnd_stay _, pstr_stay _, pstr_stay _, pstr_stay _, pstr_stay _, pstr_stay _, pstr_stay _, pstr_stay _, pstr_stay _, ptree_stay _, trivial⟩
      case rest =>
        intro W9 hE9
        have HFIN := Lib.hid (HB.out.trans (hE9.mono hbw))
        clear hE9 CL1 CL2 CA1 CA2 CN1 CN2 CC CO1 CO2 CI1 CI2 CG1 CG2 CH1 CH2 CS1 CS2 CT CSS HC1 HC2
        simp only [forS]
        intro v1 q1 v2 q2 v3 q3 v4 q4 v5 q5 v6 q6 v7 q7 v8 q8 v9 q9 v10 q10 v11 q11
        clear q1 q2 q3 q4 q5 q6 q7 q8 q9 q10 q11
        simp only [Exit.then]
        rename_i hK
        refine hK _ _ ?_
        clear hK
        have hdf := fun (l : List Oper) (us : List Value) (A : Act) => filled_defers l us A
        refine wp_ret ?_
        refine bodyPost_ret (v := .bool true) ?_ (hdf _ _ _) ⟨rfl, HFIN.out⟩
        rw [results_tmp rfl]
        refine congrArg (fun v => Result.ok v W9) (filled_last _ _ _ ?_ ?_ ?_ ?_)
        · rfl
        · rfl
        · rfl
        · exact (show (6 : Nat) < 156 by decide)
end Go.Proofs.YthinpbdbhijbgaaGreatDoor
