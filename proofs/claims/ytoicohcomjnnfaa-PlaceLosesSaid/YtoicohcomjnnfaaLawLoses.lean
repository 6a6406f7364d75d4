/- Whether without some servers too few shares are left: place.Loses answers as the reference does. No condition. -/
import Derived.Test.YtoicohcomjnnfaaFrame
import Derived.Test.YtoicohcomjnnfaaLoses
import Derived.Test.YtoicohcomjnnfaaUnlike
import Derived.Test.YtoicohcomjnnfaaWakes19
namespace Go.Proofs.Ytoicohcomjnnfaa.LawPlaceLoses
open Go Go.RowKit Go.ChangeShapes Go.WideShapes Go.ChangeAt Go.Proofs.Ytoicohcomjnnfaa
set_option linter.unusedVariables false

theorem row_fold (g : Bool) (xs : List Int) (st : List Bool × Nat) (h : st.1.length = 16) (n : Nat) (hn : n < 16) :
    (xs.foldl (lsStep g) st).1.length = 16 ∧ (xs.foldl (lsStep g) st).1.getD n false = (st.1.getD n false || (g && decide ((n : Int) ∈ xs))) := by
  induction xs generalizing st with
  | nil => exact ⟨h, by simp⟩
  | cons x xs ih =>
    simp only [List.foldl_cons]
    by_cases hc : g = true ∧ 0 ≤ x ∧ x < 16 ∧ st.1.getD x.toNat false = false
    · have e : lsStep g st x = (st.1.set x.toNat true, st.2 + 1) := by unfold lsStep; rw [if_pos hc]
      obtain ⟨i1, i2⟩ := ih (lsStep g st x) (by rw [e]; simpa using h)
      refine ⟨i1, ?_⟩
      rw [i2, e]
      simp only
      rw [getD_set _ _ _ _ _ (by omega)]
      by_cases en : x.toNat = n
      · have : (n : Int) = x := by omega
        simp [en, this, hc.1]
      · have : ¬ (n : Int) = x := by omega
        simp [en, this]
    · have e : lsStep g st x = st := by unfold lsStep; rw [if_neg hc]
      obtain ⟨i1, i2⟩ := ih (lsStep g st x) (by rw [e]; exact h)
      refine ⟨i1, ?_⟩
      rw [i2, e]
      by_cases en : (n : Int) = x
      · have hx : x.toNat = n := by omega
        rcases hs : st.1.getD n false with _ | _
        · rcases hg : g with _ | _
          · simp
          · exact absurd ⟨hg, by omega, by omega, by rw [hx]; exact hs⟩ hc
        · simp
      · simp [en]

theorem all_fold (gone : List Int) (L : List (List Int × Nat)) (st : List Bool × Nat) (h : st.1.length = 16) (n : Nat) (hn : n < 16) :
    (L.foldl (lsRow gone) st).1.length = 16 ∧ (L.foldl (lsRow gone) st).1.getD n false = L.foldl (fun b p => b || unSome gone n p) (st.1.getD n false) := by
  induction L generalizing st with
  | nil => exact ⟨h, rfl⟩
  | cons p L ih =>
    simp only [List.foldl_cons]
    obtain ⟨r1, r2⟩ := row_fold (!decide ((p.2 : Int) ∈ gone)) p.1 st h n hn
    obtain ⟨i1, i2⟩ := ih (lsRow gone st p) r1
    refine ⟨i1, ?_⟩
    rw [i2]
    congr 1

theorem count_eq (gone : List Int) (l : List (List Int)) : (lsAll gone l).2 = unCount gone l 16 := by
  have h0 : LsInv (lsAll gone l) := lsRows_inv _ _ _ lsInv0
  have hu : ∀ n, n ≤ 16 → unCount gone l n = (List.range n).countP (fun (s : Nat) => unAny gone l.zipIdx (s : Int)) := by
    intro n
    induction n with
    | zero => intro _; rfl
    | succ n ih =>
      intro hn
      rw [unCount_succ, List.range_succ, List.countP_append, ih (by omega)]
      rcases h : unAny gone l.zipIdx (n : Int) with _ | _ <;> simp [h]
  rw [h0.2, hu 16 (Nat.le_refl _)]
  have e : (lsAll gone l).1 = (List.range 16).map (fun s => unAny gone l.zipIdx ((s : Nat) : Int)) := by
    refine List.ext_getElem (by simpa using h0.1) fun i h1 h2 => ?_
    simp only [List.getElem_map, List.getElem_range]
    have hi : i < 16 := by simpa using h2
    have := (all_fold gone l.zipIdx (List.replicate 16 false, 0) (by simp) i hi).2
    rw [← getD_eq _ i false h1]
    unfold lsAll unAny
    rw [this]
    simp only [getD_rep _ _ _ hi]
  rw [e, List.count, List.countP_map]
  congr 1
  funext s
  simp

set_option maxHeartbeats 2000000 in
theorem walk (w : World) (v : Value) (l : List (List Int)) (h : Rows2 w w.heap.size v l) (k : Int) (hk : In64 k) (vg : Value) (gone : List Int) (hg : Ints w w.heap.size vg gone) (_ : ∀ x ∈ gone, In64 x) :
    Calls Try.prog 3 #[v, .int .i64 k, vg] w fun e w' => e = .returned (.bool true) ∧ Below w.heap.size w w' := by
  have H1 := hide (rows_any v l 8 w _ h (Nat.le_refl _) (by omega))
  have HG := hide hg
  clear h hg
  go_enter Try.func3, Try.ntmps3
  go_wp2_with fail
  refine H1.out.mono ?_
  rintro e w1 ⟨v1, rfl, ho, hb1⟩
  have HB1 := hide hb1
  have hs1 := hb1.size
  have HR1 := hide ho.reads
  have HG1 := hide (HG.out.below hb1 (Nat.le_refl _))
  clear ho hb1
  go_wp2_with fail
  refine (cut_ints vg gone 8 w1 _ HG1.out (by omega) (by omega)).mono ?_
  rintro e w' ⟨v2, rfl, hg2, rfl⟩
  generalize List.take (Int.toNat 8) gone = g8 at hg2
  have HG2 := hide hg2
  clear hg2
  go_wp2_with fail
  refine (loses_any v1 v2 _ _ k w1 _ HR1.out (HG2.out.more hs1) (Nat.le_refl _)).mono ?_
  rintro e w2 ⟨rfl, hb2⟩
  have HB2 := hide (HB1.out.trans (hb2.mono hs1))
  have hs2 := hb2.size
  have HR2 := hide (HR1.out.below hb2 (Nat.le_refl _))
  have HG3 := hide ((HG2.out.more hs1).below hb2 (Nat.le_refl _))
  clear hb2
  go_wp2_with fail
  refine (refLoses_any v1 v2 _ _ k w2 _ HR2.out HG3.out).mono ?_
  rintro e w' ⟨rfl, rfl⟩
  have e0 : losB g8 (rowsF l 8) k = ulB g8 (rowsF l 8) k := by unfold losB ulB; rw [count_eq]
  rw [e0]
  generalize ulB g8 (rowsF l 8) k = bb
  have hbb : (bb == bb) = true := by simp
  clear e0
  go_wp2_with fail
  refine (loses_any v1 v2 _ _ 0 w2 w2.heap.size (HR2.out.more hs2) ((HG3.out.more hs2)) (Nat.le_refl _)).mono ?_
  rintro e w3 ⟨rfl, hb3⟩
  have HB3 := hide (HB2.out.trans (hb3.mono (Nat.le_trans hs1 hs2)))
  have hs3 := hb3.size
  have e0 : losB g8 (rowsF l 8) 0 = false := by unfold losB; simp
  rw [e0]
  clear e0 hb3
  go_wp2_with fail
  refine (wakes19 w3).mono ?_
  rintro e w4 ⟨rfl, hb4⟩
  have HB4 := hide (HB3.out.trans (hb4.mono (by omega)))
  clear hb4
  go_wp2_with fail
  go_ret
  exact ⟨rfl, HB4.out⟩

set_option maxRecDepth 100000 in
theorem lifted (os : Os) (started : os.Started) (H : Type) (enc : TypeId × Value → H) :
    ReturnsInHanded {} Try.checked os 3 .any (Rows.placeLosesSpec.pre6 enc Try.prog Try.f3 Rows.placeLosesRow.domain false) (Rows.placeLosesSpec.post enc Try.prog Try.f3 false true false false) := by
  refine returnsInHanded_of_change (C := Try.checked) own started (by kernel_rfl) Try.func3
    (ChangeSpec.witness6 (enc := enc) (C := Try.checked) false ⟨#[], #[.slice none 0 0, .int .i64 0, .slice none 0 0], []⟩ 8 (by kernel_rfl) (by kernel_rfl) (by kernel_rfl) (by kernel_rfl)) ?_
  intro W base args ds gs before hval0 hW hcnd _
  have hval : ∀ (j : Nat) t v, Try.f3.params[j]? = some t → args[j]? = some v → Value.okWide Try.prog W .any base t v := hval0
  have hW' := hW
  obtain ⟨p, q, hA0, hV, rfl, hfz, hnd⟩ := hW
  have hA : DataW.TrodAll enc Try.prog W 0 (fun _ => true) true Try.f3.params.toList args.toList ds p := hA0
  rw [Try.params3] at hA hval
  obtain ⟨v0, vs0, d0, ds0, p0, q0, hargs, rfl, rfl, h0, r0⟩ := trodAll_cons hA
  obtain ⟨v1, vs1, d1, ds1, p1, q1, rfl, rfl, rfl, h1, r1⟩ := trodAll_cons r0
  obtain ⟨v2, vs2, d2, ds2, p2, q2, rfl, rfl, rfl, h2, r2⟩ := trodAll_cons r1
  obtain ⟨rfl, rfl, rfl⟩ := trodAll_nil r2
  obtain rfl : args = #[v0, v1, v2] := by cases args; simp_all
  obtain ⟨rfl, rfl⟩ := trodVars_none hV
  obtain ⟨s0, len0, cap0, rfl⟩ := okWide_slice Try.underlying22 (hval 0 22 v0 rfl rfl)
  have k0 := h0
  have lt0 : ∀ x ∈ p0, x.block < W.heap.size := by obtain ⟨m, hm⟩ := k0; exact DataW.trod_lt m _ _ _ hm
  obtain ⟨z0, w0⟩ := read_rows h0
  obtain ⟨a1, rfl, rfl, rfl, wf1⟩ := open_int Try.underlying3 (hval 1 3 v1 rfl rfl) h1
  obtain ⟨s2, len2, cap2, rfl⟩ := okWide_slice Try.underlying23 (hval 2 23 v2 rfl rfl)
  have k2 := h2
  have lt2 : ∀ x ∈ p2, x.block < W.heap.size := by obtain ⟨m, hm⟩ := k2; exact DataW.trod_lt m _ _ _ hm
  obtain ⟨z2, w2, b2⟩ := read_ints h2
  clear hA0 hval0
  refine (walk W _ z0 w0 a1 (in64_wf wf1) _ z2 w2 b2).mono fun e W' ⟨he, bel⟩ => ?_
  subst he
  exact ⟨_, rfl, _, _, _, [], _, [], hW', trodAll_mk1 (shut_bool Try.underlying4 _), (trodAll_cons_mk (Below.trod laidOut (by kernel_rfl) (of_decide_eq_true (by kernel_rfl)) k0 bel lt0) (trodAll_cons_mk (shut_int Try.underlying3 wf1) (trodAll_cons_mk (Below.trod laidOut (by kernel_rfl) (of_decide_eq_true (by kernel_rfl)) k2 bel lt2) trodAll_mk0))), rfl, bel.frame _, fun h => by cases h⟩

theorem over : Rows.placeLosesRow.holds Try.pinned (OpenSpec.ofChange Rows.placeLosesSpec) :=
  OpenClaim.holds_of_wide 3 Try.f3 rfl rfl rfl rfl rfl rfl rfl ⟨rfl, rfl, rfl, rfl, rfl⟩ rfl rfl rfl rfl rfl (by kernel_rfl) Try.func3 (by kernel_rfl)
    (of_decide_eq_true (by kernel_rfl)) (by unfold Func.isWrapper; rw [if_neg (of_decide_eq_false (by kernel_rfl))]; exact ⟨rfl, rfl⟩)
    (fun os started H enc _ => lifted os started H enc)

theorem proved : Rows.PlaceLosesSaid := over
end Go.Proofs.Ytoicohcomjnnfaa.LawPlaceLoses
