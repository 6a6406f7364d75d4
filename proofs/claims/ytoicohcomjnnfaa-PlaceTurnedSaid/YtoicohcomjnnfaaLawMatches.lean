/- P19.2: place.Match and place.Pairs answer as the reference does. No condition. -/
import Derived.Test.YtoicohcomjnnfaaFrame
import Derived.Test.YtoicohcomjnnfaaWakes19
import Derived.Test.YtoicohcomjnnfaaPairs
import Derived.Test.YtoicohcomjnnfaaRefPairs
import Derived.Test.YtoicohcomjnnfaaSame2
namespace Go.Proofs.Ytoicohcomjnnfaa.LawPlaceMatches
open Go Go.RowKit Go.ChangeShapes Go.WideShapes Go.ChangeAt Go.Proofs.Ytoicohcomjnnfaa
set_option linter.unusedVariables false

theorem few_rows (l : List (List Int)) (n : Nat) (hn : n ≤ 1000) : Few (rowsF l n) := by
  unfold rowsF
  refine ⟨by simp; omega, fun r hr => ?_⟩
  obtain ⟨x, _, rfl⟩ := List.mem_map.1 hr
  simp; omega

set_option maxHeartbeats 2000000 in
theorem walk (w : World) (v : Value) (l : List (List Int)) (h : Rows2 w w.heap.size v l) :
    Calls Try.prog 6 #[v] w fun e w' => e = .returned (.bool true) ∧ Below w.heap.size w w' := by
  have H1 := hide (rows_any v l 6 w _ h (Nat.le_refl _) (by omega))
  clear h
  go_enter Try.func6, Try.ntmps6
  go_wp2_with fail
  refine H1.out.mono ?_
  rintro e w1 ⟨v1, rfl, ho, hb1⟩
  have HF := hide (few_rows l 6 (by omega))
  generalize rowsF l 6 = L at ho HF
  have HB1 := hide hb1
  have hs1 := hb1.size
  have HR1 := hide ho.reads
  clear ho hb1
  go_wp2_with fail
  refine (match_mm v1 L w1 _ HR1.out (Nat.le_refl _)).mono ?_
  rintro e w2 ⟨rfl, hb2⟩
  have HB2 := hide (HB1.out.trans (hb2.mono hs1))
  have hs2 := hb2.size
  have HR2 := hide (HR1.out.below hb2 (Nat.le_refl _))
  clear hb2
  go_wp2_with fail
  refine (refMatch_mm v1 L w2 _ HR2.out).mono ?_
  rintro e w' ⟨rfl, rfl⟩
  generalize (mmR L fun _ => false) = m
  have hbb : ((m : Int) == (m : Int)) = true := by simp
  go_wp2_with fail
  refine (pairs_any v1 L w2 _ (HR2.out.more hs2) (Nat.le_refl _) HF.out).mono ?_
  rintro e w3 ⟨v3, rfl, ho3, hb3⟩
  have HB3 := hide (HB2.out.trans (hb3.mono (by omega)))
  have hs3 := hb3.size
  have HR3 := hide (HR2.out.below hb3 hs2)
  have HP3 := hide (Rd.of_own ho3)
  clear ho3 hb3
  go_wp2_with fail
  refine (refpairs_any v1 L w3 _ (HR3.out.more (by omega)) (Nat.le_refl _) HF.out).mono ?_
  rintro e w4 ⟨v4, rfl, ho4, hb4⟩
  have HB4 := hide (HB3.out.trans (hb4.mono (by omega)))
  have hs4 := hb4.size
  have HP4 := hide ((HP3.out.below hb4).more hs4)
  have HQ4 := hide (Rd.of_own ho4)
  clear ho4 hb4
  go_wp2_with fail
  refine (same2_any v3 v4 (pairsF L) (pairsF L) w4 _ HP4.out HQ4.out (Nat.le_refl _)).mono ?_
  rintro e w5 ⟨rfl, hb5⟩
  have HB5 := hide (HB4.out.trans (hb5.mono (by omega)))
  have hs5 := hb5.size
  have ed : decide (pairsF L = pairsF L) = true := by simp
  rw [ed]
  clear hb5 ed
  go_wp2_with fail
  refine (wakes19 w5).mono ?_
  rintro e w6 ⟨rfl, hb6⟩
  have HB6 := hide (HB5.out.trans (hb6.mono (by omega)))
  clear hb6
  go_wp2_with fail
  go_ret
  exact ⟨rfl, HB6.out⟩

set_option maxRecDepth 100000 in
theorem lifted (os : Os) (started : os.Started) (H : Type) (enc : TypeId × Value → H) :
    ReturnsInHanded {} Try.checked os 6 .any (Rows.placeMatchesSpec.pre6 enc Try.prog Try.f6 Rows.placeMatchesRow.domain false) (Rows.placeMatchesSpec.post enc Try.prog Try.f6 false true false false) := by
  refine returnsInHanded_of_change (C := Try.checked) own started (by kernel_rfl) Try.func6
    (ChangeSpec.witness6 (enc := enc) (C := Try.checked) false ⟨#[], #[.slice none 0 0], []⟩ 8 (by kernel_rfl) (by kernel_rfl) (by kernel_rfl) (by kernel_rfl)) ?_
  intro W base args ds gs before hval0 hW hcnd _
  have hval : ∀ (j : Nat) t v, Try.f6.params[j]? = some t → args[j]? = some v → Value.okWide Try.prog W .any base t v := hval0
  have hW' := hW
  obtain ⟨p, q, hA0, hV, rfl, hfz, hnd⟩ := hW
  have hA : DataW.TrodAll enc Try.prog W 0 (fun _ => true) true Try.f6.params.toList args.toList ds p := hA0
  rw [Try.params6] at hA hval
  obtain ⟨v0, vs0, d0, ds0, p0, q0, hargs, rfl, rfl, h0, r0⟩ := trodAll_cons hA
  obtain ⟨rfl, rfl, rfl⟩ := trodAll_nil r0
  obtain rfl : args = #[v0] := by cases args; simp_all
  obtain ⟨rfl, rfl⟩ := trodVars_none hV
  obtain ⟨s0, len0, cap0, rfl⟩ := okWide_slice Try.underlying22 (hval 0 22 v0 rfl rfl)
  have k0 := h0
  have lt0 : ∀ x ∈ p0, x.block < W.heap.size := by obtain ⟨m, hm⟩ := k0; exact DataW.trod_lt m _ _ _ hm
  obtain ⟨z0, w0⟩ := read_rows h0
  clear hA0 hval0
  refine (walk W _ z0 w0).mono fun e W' ⟨he, bel⟩ => ?_
  subst he
  exact ⟨_, rfl, _, _, _, [], _, [], hW', trodAll_mk1 (shut_bool Try.underlying4 _), (trodAll_cons_mk (Below.trod laidOut (by kernel_rfl) (of_decide_eq_true (by kernel_rfl)) k0 bel lt0) trodAll_mk0), rfl, bel.frame _, fun h => by cases h⟩

theorem over : Rows.placeMatchesRow.holds Try.pinned (OpenSpec.ofChange Rows.placeMatchesSpec) :=
  OpenClaim.holds_of_wide 6 Try.f6 rfl rfl rfl rfl rfl rfl rfl ⟨rfl, rfl, rfl, rfl, rfl⟩ rfl rfl rfl rfl rfl (by kernel_rfl) Try.func6 (by kernel_rfl)
    (of_decide_eq_true (by kernel_rfl)) (by unfold Func.isWrapper; rw [if_neg (of_decide_eq_false (by kernel_rfl))]; exact ⟨rfl, rfl⟩)
    (fun os started H enc _ => lifted os started H enc)

theorem proved : Rows.PlaceMatchesSaid := over
end Go.Proofs.Ytoicohcomjnnfaa.LawPlaceMatches
