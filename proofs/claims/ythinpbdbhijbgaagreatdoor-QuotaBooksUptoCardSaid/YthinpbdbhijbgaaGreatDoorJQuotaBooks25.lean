/- The law QuotaBooks where what it reads is of bulk at most 1048576: the row and its card. -/
import Derived.Test.YthinpbdbhijbgaaGreatDoorRows
import Derived.Test.YthinpbdbhijbgaaGreatDoorTie
import Derived.Test.YthinpbdbhijbgaaGreatDoorCards
import Derived.Test.YthinpbdbhijbgaaGreatDoorJQuotaBooks2
import Derived.Test.YthinpbdbhijbgaaGreatDoorJQuotaBooks5
import Derived.Test.YthinpbdbhijbgaaGreatDoorJQuotaBooks24
import Derived.ProofKit
import Derived.LaidMore
import Derived.OpenShut
import Derived.Stop.Joined
import Derived.Deep.DeepHandedRow
import Derived.Lib.LaidU8
import GoSem.PinnedTables
import Derived.Lay
import Derived.SevenTiedAt
namespace Go.Proofs.YthinpbdbhijbgaaGreatDoor
open Go.ChangeShapes Go.WideShapes Go.ChangeAt Go.RowKit Go.Lib
set_option maxHeartbeats 4000000
set_option maxRecDepth 100000

section
variable {H : Type} {enc : TypeId × Value → H} {w : World}
theorem trodAll_N5 {P : Program} {base : Nat} {spare : Nat → Bool} {held : Bool} {t0 t1 t2 t3 t4 : TypeId} {args : Array Value} {ds : List (DataW H)} {ps : List MemPlace} (h : DataW.TrodAll enc P w base spare held [t0, t1, t2, t3, t4] args.toList ds ps) :
    ∃ v0 v1 v2 v3 v4 d0 d1 d2 d3 d4 p0 p1 p2 p3 p4, args = #[v0, v1, v2, v3, v4] ∧ ds = [d0, d1, d2, d3, d4] ∧ ps = p0 ++ (p1 ++ (p2 ++ (p3 ++ p4))) ∧ DataW.Trod enc P w base spare held t0 v0 d0 p0 ∧ DataW.Trod enc P w base spare held t1 v1 d1 p1 ∧ DataW.Trod enc P w base spare held t2 v2 d2 p2 ∧ DataW.Trod enc P w base spare held t3 v3 d3 p3 ∧ DataW.Trod enc P w base spare held t4 v4 d4 p4 := by
  obtain ⟨v0, s0, d0, ds0, p0, q0, e0, rfl, rfl, h0, r0⟩ := trodAll_cons h
  obtain ⟨v1, s1, d1, ds1, p1, q1, rfl, rfl, rfl, h1, r1⟩ := trodAll_cons r0
  obtain ⟨v2, s2, d2, ds2, p2, q2, rfl, rfl, rfl, h2, r2⟩ := trodAll_cons r1
  obtain ⟨v3, s3, d3, ds3, p3, q3, rfl, rfl, rfl, h3, r3⟩ := trodAll_cons r2
  obtain ⟨v4, s4, d4, ds4, p4, q4, rfl, rfl, rfl, h4, r4⟩ := trodAll_cons r3
  obtain ⟨rfl, rfl, rfl⟩ := trodAll_nil r4
  exact ⟨v0, v1, v2, v3, v4, d0, d1, d2, d3, d4, p0, p1, p2, p3, p4, by cases args; simp_all, rfl, by simp, h0, h1, h2, h3, h4⟩
theorem trodAll_mkN5 {P : Program} {base : Nat} {spare : Nat → Bool} {held : Bool} {t0 t1 t2 t3 t4 : TypeId} {v0 v1 v2 v3 v4 : Value} {d0 d1 d2 d3 d4 : DataW H} {p0 p1 p2 p3 p4 : List MemPlace} (h0 : DataW.Trod enc P w base spare held t0 v0 d0 p0) (h1 : DataW.Trod enc P w base spare held t1 v1 d1 p1) (h2 : DataW.Trod enc P w base spare held t2 v2 d2 p2) (h3 : DataW.Trod enc P w base spare held t3 v3 d3 p3) (h4 : DataW.Trod enc P w base spare held t4 v4 d4 p4) :
    DataW.TrodAll enc P w base spare held [t0, t1, t2, t3, t4] [v0, v1, v2, v3, v4] [d0, d1, d2, d3, d4] (p0 ++ (p1 ++ (p2 ++ (p3 ++ p4)))) :=
  ⟨p0, _, h0, ⟨p1, _, h1, ⟨p2, _, h2, trodAll_mk2 h3 h4, rfl⟩, rfl⟩, rfl⟩
end

theorem qbooks_c_reads (os : Os) {H : Type} (enc : TypeId × Value → H) : ∃ places, DataW.whole enc Tryz.prog ((World.laidAll Tryz.prog os laidU).forCall (fun _ _ => 0) ⟨#[], #[.slice none 0 0, .slice none 0 0, .string ⟨#[]⟩, .int .i64 0, .int .i64 0], []⟩).memory Tryz.f5.params.toList Rows.quotaBooksSpec.vars false #[Value.slice none 0 0, .slice none 0 0, .string ⟨#[]⟩, .int .i64 0, .int .i64 0].toList 8 = some ([.nil, .nil, .lit (.string []), .lit (.int .i64 0), .lit (.int .i64 0)], [], places) :=
  ⟨[], by kernel_rfl⟩
theorem qbooks_c_met (os : Os) : laidMetH Tryz.prog Rows.quotaBooksUptoRow.laid ((World.laidAll Tryz.prog os laidU).forCall (fun _ _ => 0) ⟨#[], #[.slice none 0 0, .slice none 0 0, .string ⟨#[]⟩, .int .i64 0, .int .i64 0], []⟩).memory := by
  rw [MakeChecks.laidMetH_plain _ _ _ (by kernel_rfl)]
  exact laidMet_laidAll _ (by kernel_rfl) (by kernel_rfl)

theorem qbooks_c_lifted (os : Os) (started : os.Started) (H : Type) (enc : TypeId × Value → H) (F : Stop.Interp) :
    ReturnsInHanded {} Tryz.checked os 5 .any ((Rows.OpenSpec.upto Rows.quotaBooksSpec).preRow enc Tryz.prog Tryz.f5 Rows.quotaBooksUptoRow.domain false Rows.quotaBooksUptoRow.laid)
      (((Rows.OpenSpec.upto Rows.quotaBooksSpec).at F).post enc Tryz.prog Tryz.f5 false true false false) := by
  obtain ⟨places, hx⟩ := qbooks_c_reads os enc
  refine returnsInHanded_of_row (C := Tryz.checked) (s := Rows.OpenSpec.upto Rows.quotaBooksSpec) Tryz.own started (by kernel_rfl) Tryz.func5
    (witness_row_at (enc := enc) (C := Tryz.checked) false (World.laidAll Tryz.prog os laidU) #[.slice none 0 0, .slice none 0 0, .string ⟨#[]⟩, .int .i64 0, .int .i64 0] (World.laidAll_os _ _ _) (by kernel_rfl) (by kernel_rfl) (by kernel_rfl)
      (OpenSpec.preRow_of_cond 8 hx (by kernel_rfl) (fun k hk => by cases hk; kernel_rfl) (by kernel_rfl) (qbooks_c_met os))) ?_
  intro W base args ds gs before hval0 hW _ hcond hz hL _ _
  have hk : Rows.uptoSmall H (ds ++ gs) = true := hcond _ rfl
  have hval : ∀ (j : Nat) t v, Tryz.f5.params[j]? = some t → args[j]? = some v → Value.okWide Tryz.prog W .any base t v := hval0
  have hW' := hW
  obtain ⟨p, q, hA0, hV, rfl, hfz, hnd⟩ := hW
  have hA : DataW.TrodAll enc Tryz.prog W 0 (fun _ => true) true Tryz.f5.params.toList args.toList ds p := hA0
  have hz' : (DataW.weightsEach Tryz.prog (Tryz.f5.params.toList ++ Rows.quotaBooksSpec.plain.varTypes Tryz.prog) (ds ++ gs)).all (· ≤ reachBytes) = true := hz
  rw [Tryz.params5] at hA hval hz'
  obtain ⟨v0, v1, v2, v3, v4, d0, d1, d2, d3, d4, p0, p1, p2, p3, p4, rfl, rfl, rfl, h0, h1, h2, h3, h4⟩ := trodAll_N5 hA
  obtain ⟨rfl, rfl⟩ := trodVars_none hV
  simp only [List.append_nil, List.append_assoc] at hW' hk
  have hlt : ∀ x ∈ p0 ++ (p1 ++ (p2 ++ (p3 ++ p4))), x.block < W.heap.size := fun x hx => by simpa using hW'.lt x hx
  have hl0 : Light 50 d0 := light_each hz' (j := 0) rfl rfl
  have hl1 : Light 62 d1 := light_each hz' (j := 1) rfl rfl
  have hl2 : Light 9 d2 := light_each hz' (j := 2) rfl rfl
  have hl3 : Light 2 d3 := light_each hz' (j := 3) rfl rfl
  have hl4 : Light 2 d4 := light_each hz' (j := 4) rfl rfl
  have hargs : ∀ (W' : World), Below W.heap.size W W' → DataW.TrodAll enc Tryz.prog W' 0 (fun b => decide (b < W.heap.size)) true [50, 62, 9, 2, 2] [v0, v1, v2, v3, v4] [d0, d1, d2, d3, d4] (p0 ++ (p1 ++ (p2 ++ (p3 ++ p4)))) :=
    fun W' hn => trodAll_mkN5 (Below.trod Tryz.laidOut (by kernel_rfl) (of_decide_eq_true (by kernel_rfl)) h0 hn fun x hx => hlt x (List.mem_append_left _ hx)) (Below.trod Tryz.laidOut (by kernel_rfl) (of_decide_eq_true (by kernel_rfl)) h1 hn fun x hx => hlt x (List.mem_append_right _ (List.mem_append_left _ hx))) (Below.trod Tryz.laidOut (by kernel_rfl) (of_decide_eq_true (by kernel_rfl)) h2 hn fun x hx => hlt x (List.mem_append_right _ (List.mem_append_right _ (List.mem_append_left _ hx)))) (Below.trod Tryz.laidOut (by kernel_rfl) (of_decide_eq_true (by kernel_rfl)) h3 hn fun x hx => hlt x (List.mem_append_right _ (List.mem_append_right _ (List.mem_append_right _ (List.mem_append_left _ hx))))) (Below.trod Tryz.laidOut (by kernel_rfl) (of_decide_eq_true (by kernel_rfl)) h4 hn fun x hx => hlt x (List.mem_append_right _ (List.mem_append_right _ (List.mem_append_right _ (List.mem_append_right _ hx)))))
  obtain ⟨a0, len0, cap0, rfl⟩ := okWide_slice Tryz.underlying50 (hval 0 50 v0 rfl rfl)
  obtain ⟨a1, len1, cap1, rfl⟩ := okWide_slice Tryz.underlying62 (hval 1 62 v1 rfl rfl)
  obtain ⟨s2, rfl⟩ := okWide_string Tryz.underlying9 (hval 2 9 v2 rfl rfl)
  obtain ⟨i3, rfl⟩ := okWide_int Tryz.underlying2 (hval 3 2 v3 rfl rfl)
  obtain ⟨i4, rfl⟩ := okWide_int Tryz.underlying2 (hval 4 2 v4 rfl rfl)
  obtain ⟨fu0, g0⟩ := h0
  obtain ⟨l0, a0, c0, e0, hsz0, hf0, hN0, _⟩ := open_nodes_r (x := (d0, p0)) g0 hl0
  obtain ⟨fu1, g1⟩ := h1
  obtain ⟨l1, a1, c1, e1, hsz1, hf1, hN1⟩ := open_changes (x := (d1, p1)) g1 hl1
  have hs2 : s2.size ≤ 9223372036854775800 := by
    obtain ⟨fu, g⟩ := h2
    obtain ⟨t2, et, ed, _⟩ := DataW.trod_string Tryz.underlying9 g
    cases et
    have q2 : d2 = .lit (.string s2.data.toList) := congrArg Prod.fst ed
    rw [q2] at hl2
    have := light_str hl2
    omega
  have hr3 : -9223372036854775808 ≤ i3 ∧ i3 ≤ 9223372036854775807 := by
    obtain ⟨fu, g⟩ := h3
    obtain ⟨z, ez, _, r⟩ := DataW.trod_int Tryz.underlying2 g
    cases ez
    exact wf_i64 r
  have hr4 : -9223372036854775808 ≤ i4 ∧ i4 ≤ 9223372036854775807 := by
    obtain ⟨fu, g⟩ := h4
    obtain ⟨z, ez, _, r⟩ := DataW.trod_int Tryz.underlying2 g
    cases ez
    exact wf_i64 r
  rw [e0, e1] at hargs hW' ⊢
  rw [e0] at g0
  have hln0 : l0.length ≤ 1048576 := Nat.le_trans (slice_bulk (x := (d0, p0)) Tryz.underlying50 g0) (small_mem hk (List.mem_cons_self ..))
  rw [e1] at g1
  have hln1 : l1.length ≤ 1048576 := Nat.le_trans (slice_bulk (x := (d1, p1)) Tryz.underlying62 g1) (small_mem hk (List.mem_cons_of_mem _ (List.mem_cons_self ..)))
  refine (qbooks_walk l0 a0 c0 l1 a1 c1 s2 i3 i4 W (tabs_of_laid hL) hN0 hf0 hln0 hN1 hf1 hln1 hs2 hr3.2 hr4.2).mono fun e W' ⟨he, bel⟩ => ?_
  subst he
  exact ⟨_, rfl, _, _, _, [], p0 ++ (p1 ++ (p2 ++ (p3 ++ p4))), [], hW', trodAll_mk1 (shut_bool Tryz.underlying4 _), hargs _ bel, rfl, bel.frame _, fun h => by cases h⟩

theorem qbooks_c_said : Rows.QuotaBooksUptoSaid :=
  OpenClaim.holds_of_cond 5 Tryz.f5 rfl rfl rfl rfl rfl rfl rfl ⟨rfl, rfl, rfl, rfl, rfl⟩ rfl rfl rfl rfl rfl (by kernel_rfl) Tryz.func5 (by kernel_rfl)
    (of_decide_eq_true (by kernel_rfl)) (by unfold Func.isWrapper; first | (rw [if_pos (by decide +kernel)]; kernel_rfl) | (rw [if_neg (by decide +kernel)]; exact ⟨rfl, rfl⟩))
    (fun os started H enc _ F => by rw [OpenClaim.pre_eq_preRow]; exact qbooks_c_lifted os started H enc F)

theorem qbooks_holds : Rows.QuotaBooksUptoCardSaid :=
  Claim7.holds_tied_plain_at .later [] _ _ _ _ qbooks_c_said (fun _ h => by cases h) (by kernel_rfl) (fun _ h => by cases h) quotaBooksUpto_row_tie rfl ⟨rfl, rfl⟩ (by kernel_rfl) rfl
    (fun f fn hf hfn => by
      obtain rfl : f = 5 := Option.some.inj ((show Tryz.prog.funcNamed "arbor/arborlaw10.QuotaBooks" = some 5 by kernel_rfl).symm.trans hf) |>.symm
      obtain rfl : fn = Tryz.f5 := (Option.some.inj (Tryz.func5.symm.trans hfn)).symm
      exact ⟨by kernel_rfl, fun j t ht => by
        rw [Tryz.params5] at ht
        have hm : t ∈ [50, 62, 9, 2, 2] := by simpa using Array.mem_of_getElem? ht
        have hall : ([50, 62, 9, 2, 2].all fun u => !Tryz.prog.wantsStandIn u) = true := by kernel_rfl
        exact (show Tryz.prog.wantsStandIn t = false by simpa using List.all_eq_true.1 hall t hm)⟩)
    (by kernel_rfl)
#print axioms qbooks_holds
end Go.Proofs.YthinpbdbhijbgaaGreatDoor
