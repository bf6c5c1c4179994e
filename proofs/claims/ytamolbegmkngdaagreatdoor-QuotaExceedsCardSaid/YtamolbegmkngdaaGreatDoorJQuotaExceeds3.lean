/- The law QuotaExceeds: the row and its card. -/
import Derived.Test.YtamolbegmkngdaaGreatDoorRows
import Derived.Test.YtamolbegmkngdaaGreatDoorTie
import Derived.Test.YtamolbegmkngdaaGreatDoorCards
import Derived.Test.YtamolbegmkngdaaGreatDoorJQuotaMore2
import Derived.Test.YtamolbegmkngdaaGreatDoorJQuotaMore6
import Derived.Test.YtamolbegmkngdaaGreatDoorJQuotaExceeds2
import Derived.ProofKit
import Derived.LaidMore
import Derived.OpenShut
import Derived.Stop.Joined
import Derived.Lib.LaidU8
import GoSem.PinnedTables
import Derived.Lay
import Derived.SevenTiedAt
namespace Go.Proofs.YtamolbegmkngdaaGreatDoor
open Go.ChangeShapes Go.WideShapes Go.ChangeAt Go.RowKit Go.Lib
set_option maxHeartbeats 4000000
set_option maxRecDepth 100000

section
variable {H : Type} {enc : TypeId × Value → H} {w : World}
theorem trodAll_N4 {P : Program} {base : Nat} {spare : Nat → Bool} {held : Bool} {t0 t1 t2 t3 : TypeId} {args : Array Value} {ds : List (DataW H)} {ps : List MemPlace} (h : DataW.TrodAll enc P w base spare held [t0, t1, t2, t3] args.toList ds ps) :
    ∃ v0 v1 v2 v3 d0 d1 d2 d3 p0 p1 p2 p3, args = #[v0, v1, v2, v3] ∧ ds = [d0, d1, d2, d3] ∧ ps = p0 ++ (p1 ++ (p2 ++ p3)) ∧ DataW.Trod enc P w base spare held t0 v0 d0 p0 ∧ DataW.Trod enc P w base spare held t1 v1 d1 p1 ∧ DataW.Trod enc P w base spare held t2 v2 d2 p2 ∧ DataW.Trod enc P w base spare held t3 v3 d3 p3 := by
  obtain ⟨v0, s0, d0, ds0, p0, q0, e0, rfl, rfl, h0, r0⟩ := trodAll_cons h
  obtain ⟨v1, s1, d1, ds1, p1, q1, rfl, rfl, rfl, h1, r1⟩ := trodAll_cons r0
  obtain ⟨v2, s2, d2, ds2, p2, q2, rfl, rfl, rfl, h2, r2⟩ := trodAll_cons r1
  obtain ⟨v3, s3, d3, ds3, p3, q3, rfl, rfl, rfl, h3, r3⟩ := trodAll_cons r2
  obtain ⟨rfl, rfl, rfl⟩ := trodAll_nil r3
  exact ⟨v0, v1, v2, v3, d0, d1, d2, d3, p0, p1, p2, p3, by cases args; simp_all, rfl, by simp, h0, h1, h2, h3⟩
theorem trodAll_mkN4 {P : Program} {base : Nat} {spare : Nat → Bool} {held : Bool} {t0 t1 t2 t3 : TypeId} {v0 v1 v2 v3 : Value} {d0 d1 d2 d3 : DataW H} {p0 p1 p2 p3 : List MemPlace} (h0 : DataW.Trod enc P w base spare held t0 v0 d0 p0) (h1 : DataW.Trod enc P w base spare held t1 v1 d1 p1) (h2 : DataW.Trod enc P w base spare held t2 v2 d2 p2) (h3 : DataW.Trod enc P w base spare held t3 v3 d3 p3) :
    DataW.TrodAll enc P w base spare held [t0, t1, t2, t3] [v0, v1, v2, v3] [d0, d1, d2, d3] (p0 ++ (p1 ++ (p2 ++ p3))) :=
  ⟨p0, _, h0, ⟨p1, _, h1, trodAll_mk2 h2 h3, rfl⟩, rfl⟩
end

theorem qexc_lifted (os : Os) (started : os.Started) (H : Type) (enc : TypeId × Value → H) :
    ReturnsInHanded {} Tryz.checked os 6 .any (fun w args => (Rows.quotaExceedsSpec.pre enc Tryz.prog Tryz.f6 [] false w args ∧ laidMetH Tryz.prog laidU w) ∧ sizedMet enc Tryz.prog Tryz.f6 (OpenSpec.ofChange Rows.quotaExceedsSpec) false w args)
      (Rows.quotaExceedsSpec.post enc Tryz.prog Tryz.f6 false true false false) := by
  refine returnsInHanded_of_change_and (C := Tryz.checked) (X := fun w _ => laidMetH Tryz.prog laidU w) (fun _ _ _ hh h => h.of_heap hh) Tryz.own started (by kernel_rfl) Tryz.func6
    (ChangeSpec.witness_shaped (enc := enc) (C := Tryz.checked) (os := os) (X := fun w _ => laidMetH Tryz.prog laidU w) false (World.laidAll Tryz.prog os laidU)
      #[.slice none 0 0, .string .empty, .int .i64 0, .int .i64 0] 8 (World.laidAll_os _ _ _)
      (World.shaped_of_ZipB (by kernel_rfl) (by kernel_rfl)) (by kernel_rfl) (by kernel_rfl) (by kernel_rfl)
      (by rw [MakeChecks.laidMetH_plain _ _ _ (by kernel_rfl)]; exact laidMet_laidAll _ (by kernel_rfl) (by kernel_rfl))) ?_
  intro W base args ds gs before hval0 hW _ hz hL _
  have hval : ∀ (j : Nat) t v, Tryz.f6.params[j]? = some t → args[j]? = some v → Value.okWide Tryz.prog W .any base t v := hval0
  have hW' := hW
  obtain ⟨p, q, hA0, hV, rfl, hfz, hnd⟩ := hW
  have hA : DataW.TrodAll enc Tryz.prog W 0 (fun _ => true) true Tryz.f6.params.toList args.toList ds p := hA0
  have hz' : (DataW.weightsEach Tryz.prog (Tryz.f6.params.toList ++ Rows.quotaExceedsSpec.plain.varTypes Tryz.prog) (ds ++ gs)).all (· ≤ reachBytes) = true := hz
  rw [Tryz.params6] at hA hval hz'
  obtain ⟨v0, v1, v2, v3, d0, d1, d2, d3, p0, p1, p2, p3, rfl, rfl, rfl, h0, h1, h2, h3⟩ := trodAll_N4 hA
  obtain ⟨rfl, rfl⟩ := trodVars_none hV
  simp only [List.append_nil, List.append_assoc] at hW'
  have hlt : ∀ x ∈ p0 ++ (p1 ++ (p2 ++ p3)), x.block < W.heap.size := fun x hx => by simpa using hW'.lt x hx
  have hl0 : Light 22 d0 := light_each hz' (j := 0) rfl rfl
  have hl1 : Light 9 d1 := light_each hz' (j := 1) rfl rfl
  have hl2 : Light 2 d2 := light_each hz' (j := 2) rfl rfl
  have hl3 : Light 2 d3 := light_each hz' (j := 3) rfl rfl
  have hargs : ∀ (W' : World), Below W.heap.size W W' → DataW.TrodAll enc Tryz.prog W' 0 (fun b => decide (b < W.heap.size)) true [22, 9, 2, 2] [v0, v1, v2, v3] [d0, d1, d2, d3] (p0 ++ (p1 ++ (p2 ++ p3))) :=
    fun W' hn => trodAll_mkN4 (Below.trod Tryz.laidOut (by kernel_rfl) (of_decide_eq_true (by kernel_rfl)) h0 hn fun x hx => hlt x (List.mem_append_left _ hx)) (Below.trod Tryz.laidOut (by kernel_rfl) (of_decide_eq_true (by kernel_rfl)) h1 hn fun x hx => hlt x (List.mem_append_right _ (List.mem_append_left _ hx))) (Below.trod Tryz.laidOut (by kernel_rfl) (of_decide_eq_true (by kernel_rfl)) h2 hn fun x hx => hlt x (List.mem_append_right _ (List.mem_append_right _ (List.mem_append_left _ hx)))) (Below.trod Tryz.laidOut (by kernel_rfl) (of_decide_eq_true (by kernel_rfl)) h3 hn fun x hx => hlt x (List.mem_append_right _ (List.mem_append_right _ (List.mem_append_right _ hx))))
  obtain ⟨a0, len0, cap0, rfl⟩ := okWide_slice Tryz.underlying22 (hval 0 22 v0 rfl rfl)
  obtain ⟨s1, rfl⟩ := okWide_string Tryz.underlying9 (hval 1 9 v1 rfl rfl)
  obtain ⟨i2, rfl⟩ := okWide_int Tryz.underlying2 (hval 2 2 v2 rfl rfl)
  obtain ⟨i3, rfl⟩ := okWide_int Tryz.underlying2 (hval 3 2 v3 rfl rfl)
  obtain ⟨fu0, g0⟩ := h0
  obtain ⟨l0, a0, c0, e0, hsz0, hf0, hN0, _⟩ := open_nodes_r (x := (d0, p0)) g0 hl0
  have hs1 : s1.size ≤ 9223372036854775800 := by
    obtain ⟨fu, g⟩ := h1
    obtain ⟨t1, et, ed, _⟩ := DataW.trod_string Tryz.underlying9 g
    cases et
    have q1 : d1 = .lit (.string s1.data.toList) := congrArg Prod.fst ed
    rw [q1] at hl1
    have := light_str hl1
    omega
  have hr2 : -9223372036854775808 ≤ i2 ∧ i2 ≤ 9223372036854775807 := by
    obtain ⟨fu, g⟩ := h2
    obtain ⟨z, ez, _, r⟩ := DataW.trod_int Tryz.underlying2 g
    cases ez
    exact wf_i64 r
  have hr3 : -9223372036854775808 ≤ i3 ∧ i3 ≤ 9223372036854775807 := by
    obtain ⟨fu, g⟩ := h3
    obtain ⟨z, ez, _, r⟩ := DataW.trod_int Tryz.underlying2 g
    cases ez
    exact wf_i64 r
  rw [e0] at hargs hW' ⊢
  refine (qexc_walk l0 a0 c0 s1 i2 i3 W (tabs_of_laid hL) hN0 hf0 hsz0 hs1 hr2.2 hr3.2).mono fun e W' ⟨he, bel⟩ => ?_
  subst he
  exact ⟨_, rfl, _, _, _, [], p0 ++ (p1 ++ (p2 ++ p3)), [], hW', trodAll_mk1 (shut_bool Tryz.underlying4 _), hargs _ bel, rfl, bel.frame _, fun h => by cases h⟩

theorem qexc_said : Rows.QuotaExceedsSaid :=
  OpenClaim.holds_of_wide 6 Tryz.f6 rfl rfl rfl rfl rfl rfl rfl ⟨rfl, rfl, rfl, rfl, rfl⟩ rfl rfl rfl rfl rfl (by kernel_rfl) Tryz.func6 (by kernel_rfl)
    (of_decide_eq_true (by kernel_rfl)) (by unfold Func.isWrapper; first | (rw [if_pos (by decide +kernel)]; kernel_rfl) | (rw [if_neg (by decide +kernel)]; exact ⟨rfl, rfl⟩))
    (fun os started H enc _ => qexc_lifted os started H enc)

theorem qexc_holds : Rows.QuotaExceedsCardSaid :=
  Claim7.holds_tied_plain_at .later [] [.data, .pinned] true _ false qexc_said (fun _ h => by cases h) (by kernel_rfl) (fun _ h => by cases h) quotaExceeds_row_tie rfl ⟨rfl, rfl⟩ (by kernel_rfl) rfl
    (fun f fn hf hfn => by
      obtain rfl : f = 6 := Option.some.inj ((show Tryz.prog.funcNamed "arbor/arborlaw10.QuotaExceeds" = some 6 by kernel_rfl).symm.trans hf) |>.symm
      obtain rfl : fn = Tryz.f6 := (Option.some.inj (Tryz.func6.symm.trans hfn)).symm
      exact ⟨by kernel_rfl, fun j t ht => by
        rw [Tryz.params6] at ht
        have hm : t ∈ [22, 9, 2, 2] := by simpa using Array.mem_of_getElem? ht
        have hall : ([22, 9, 2, 2].all fun u => !Tryz.prog.wantsStandIn u) = true := by kernel_rfl
        exact (show Tryz.prog.wantsStandIn t = false by simpa using List.all_eq_true.1 hall t hm)⟩)
    (by kernel_rfl)
#print axioms qexc_holds
end Go.Proofs.YtamolbegmkngdaaGreatDoor
