/- The law DigestBooks: the row and its card. -/
import Derived.Test.YtfgjbcejpjcpeaaDoorRows
import Derived.Test.YtfgjbcejpjcpeaaDoorTie
import Derived.Test.YtfgjbcejpjcpeaaDoorCards
import Derived.Test.YtfgjbcejpjcpeaaDoorJDigestBooks2
import Derived.Test.YtfgjbcejpjcpeaaDoorJDigestBooks12
import Derived.Test.YtfgjbcejpjcpeaaDoorJDigestBooks13
import Derived.ProofKit
import Derived.LaidMore
import Derived.OpenShut
import Derived.Stop.Joined
import Derived.Lib.LaidU8
import GoSem.PinnedTables
import Derived.Lay
import Derived.SevenTiedAt
namespace Go.Proofs.YtfgjbcejpjcpeaaDoor
open Go.ChangeShapes Go.WideShapes Go.ChangeAt Go.RowKit Go.Lib
set_option maxHeartbeats 2000000
set_option maxRecDepth 100000

theorem books_lifted (os : Os) (started : os.Started) (H : Type) (enc : TypeId × Value → H) :
    ReturnsInHanded {} Tryd.checked os 6 .any (fun w args => (Rows.digestBooksSpec.pre enc Tryd.prog Tryd.f6 [] false w args ∧ laidMetH Tryd.prog laidU w) ∧ sizedMet enc Tryd.prog Tryd.f6 (OpenSpec.ofChange Rows.digestBooksSpec) false w args)
      (Rows.digestBooksSpec.post enc Tryd.prog Tryd.f6 false true false false) := by
  refine returnsInHanded_of_change_and (C := Tryd.checked) (X := fun w _ => laidMetH Tryd.prog laidU w) (fun _ _ _ hh h => h.of_heap hh) Tryd.own started (by kernel_rfl) Tryd.func6
    (ChangeSpec.witness_shaped (enc := enc) (C := Tryd.checked) (os := os) (X := fun w _ => laidMetH Tryd.prog laidU w) false (World.laidAll Tryd.prog os laidU)
      #[.int .i64 0, .int .i64 0, .slice none 0 0, .slice none 0 0, .int .i64 0] 8 (World.laidAll_os _ _ _)
      (World.shaped_of_ZipB (by kernel_rfl) (by kernel_rfl)) (by kernel_rfl) (by kernel_rfl) (by kernel_rfl)
      (by rw [MakeChecks.laidMetH_plain _ _ _ (by kernel_rfl)]; exact laidMet_laidAll _ (by kernel_rfl) (by kernel_rfl))) ?_
  intro W base args ds gs before hval0 hW _ hz hL _
  have hval : ∀ (j : Nat) t v, Tryd.f6.params[j]? = some t → args[j]? = some v → Value.okWide Tryd.prog W .any base t v := hval0
  have hW' := hW
  obtain ⟨p, q, hA0, hV, rfl, hfz, hnd⟩ := hW
  have hA : DataW.TrodAll enc Tryd.prog W 0 (fun _ => true) true Tryd.f6.params.toList args.toList ds p := hA0
  have hz' : (DataW.weightsEach Tryd.prog (Tryd.f6.params.toList ++ Rows.digestBooksSpec.plain.varTypes Tryd.prog) (ds ++ gs)).all (· ≤ reachBytes) = true := hz
  rw [Tryd.params6] at hA hval hz'
  obtain ⟨v0, v1, v2, v3, v4, d0, d1, d2, d3, d4, p0, p1, p2, p3, p4, rfl, rfl, rfl, h0, h1, h2, h3, h4⟩ := trodAll_five' hA
  obtain ⟨rfl, rfl⟩ := trodVars_none hV
  simp only [List.append_nil] at hW'
  have hlt : ∀ x ∈ p0 ++ (p1 ++ (p2 ++ (p3 ++ p4))), x.block < W.heap.size := fun x hx => by simpa using hW'.lt x hx
  have hl2 : Light 52 d2 := light_each hz' (j := 2) rfl rfl
  have hl3 : Light 52 d3 := light_each hz' (j := 3) rfl rfl
  have hargs : ∀ (W' : World), Below W.heap.size W W' → DataW.TrodAll enc Tryd.prog W' 0 (fun b => decide (b < W.heap.size)) true [2, 3, 52, 52, 2] [v0, v1, v2, v3, v4] [d0, d1, d2, d3, d4] (p0 ++ (p1 ++ (p2 ++ (p3 ++ p4)))) :=
    fun W' hn => trodAll_mk5' (Below.trod Tryd.laidOut (by kernel_rfl) (of_decide_eq_true (by kernel_rfl)) h0 hn fun x hx => hlt x (by simp [hx])) (Below.trod Tryd.laidOut (by kernel_rfl) (of_decide_eq_true (by kernel_rfl)) h1 hn fun x hx => hlt x (by simp [hx])) (Below.trod Tryd.laidOut (by kernel_rfl) (of_decide_eq_true (by kernel_rfl)) h2 hn fun x hx => hlt x (by simp [hx])) (Below.trod Tryd.laidOut (by kernel_rfl) (of_decide_eq_true (by kernel_rfl)) h3 hn fun x hx => hlt x (by simp [hx])) (Below.trod Tryd.laidOut (by kernel_rfl) (of_decide_eq_true (by kernel_rfl)) h4 hn fun x hx => hlt x (by simp [hx]))
  obtain ⟨every, rfl⟩ := okWide_int Tryd.underlying2 (hval 0 2 v0 rfl rfl)
  obtain ⟨most, rfl⟩ := okWide_int Tryd.underlying3 (hval 1 3 v1 rfl rfl)
  obtain ⟨a2, len2, cap2, rfl⟩ := okWide_slice Tryd.underlying52 (hval 2 52 v2 rfl rfl)
  obtain ⟨a3, len3, cap3, rfl⟩ := okWide_slice Tryd.underlying52 (hval 3 52 v3 rfl rfl)
  obtain ⟨zat, rfl⟩ := okWide_int Tryd.underlying2 (hval 4 2 v4 rfl rfl)
  obtain ⟨fu1, g1⟩ := h1
  obtain ⟨fu2, g2⟩ := h2
  obtain ⟨fu3, g3⟩ := h3
  obtain ⟨m1, em, _, wm⟩ := DataW.trod_int Tryd.underlying3 g1
  have hmx : most ≤ 9223372036854775807 := by
    have e0 : [Value.int .i64 most] = [Value.int .i64 m1] := em
    have e : most = m1 := by simpa using e0
    rw [e]; exact wf_i64_le wm
  obtain ⟨l, a, c, e2, hsz, hzs, hN⟩ := open_notes (x := (d2, p2)) g2 hl2
  obtain ⟨l', a', c', e3, hsz', hzs', hN'⟩ := open_notes (x := (d3, p3)) g3 hl3
  rw [e2, e3] at hargs hW' ⊢
  have C : Calls Tryd.prog 6 #[.int .i64 every, .int .i64 most, .slice a l.length c, .slice a' l'.length c', .int .i64 zat] W fun e w' => e = .returned (.bool true) ∧ Below W.heap.size W w' := by
    by_cases hg : 1 ≤ every ∧ 1 ≤ most
    · exact books_walk every most l l' a a' c c' zat W (tabs_of_laid hL) hN hN' hsz hsz' hzs hzs' hg.1 hg.2 hmx
    · exact books_none every most l l' a a' c c' zat W (tabs_of_laid hL) hN hN' hsz hsz' hg
  refine C.mono fun e W' ⟨he, bel⟩ => ?_
  subst he
  exact ⟨_, rfl, _, _, _, [], p0 ++ (p1 ++ (p2 ++ (p3 ++ p4))), [], hW', trodAll_mk1 (shut_bool Tryd.underlying4 _), hargs _ bel, rfl, bel.frame _, fun h => by cases h⟩

theorem books_said : Rows.DigestBooksSaid :=
  OpenClaim.holds_of_wide 6 Tryd.f6 rfl rfl rfl rfl rfl rfl rfl ⟨rfl, rfl, rfl, rfl, rfl⟩ rfl rfl rfl rfl rfl (by kernel_rfl) Tryd.func6 (by kernel_rfl)
    (of_decide_eq_true (by kernel_rfl)) (by unfold Func.isWrapper; first | (rw [if_pos (by decide +kernel)]; kernel_rfl) | (rw [if_neg (by decide +kernel)]; exact ⟨rfl, rfl⟩))
    (fun os started H enc _ => books_lifted os started H enc)

theorem books_holds : Rows.DigestBooksCardSaid :=
  Claim7.holds_tied_plain_at .later [] [.data, .pinned] true _ false books_said (fun _ h => by cases h) (by kernel_rfl) (fun _ h => by cases h) digestBooks_row_tie rfl ⟨rfl, rfl⟩ (by kernel_rfl) rfl
    (fun f fn hf hfn => by
      obtain rfl : f = 6 := Option.some.inj ((show Tryd.prog.funcNamed "arbor/arborlaw09.DigestBooks" = some 6 by kernel_rfl).symm.trans hf) |>.symm
      obtain rfl : fn = Tryd.f6 := (Option.some.inj (Tryd.func6.symm.trans hfn)).symm
      exact ⟨by kernel_rfl, fun j t ht => by
        rw [Tryd.params6] at ht
        have hm : t ∈ [2, 3, 52, 52, 2] := by simpa using Array.mem_of_getElem? ht
        have hall : ([2, 3, 52, 52, 2].all fun u => !Tryd.prog.wantsStandIn u) = true := by kernel_rfl
        exact (show Tryd.prog.wantsStandIn t = false by simpa using List.all_eq_true.1 hall t hm)⟩)
    (by kernel_rfl)
#print axioms books_holds
end Go.Proofs.YtfgjbcejpjcpeaaDoor
