/-
CapsPrints holds: a capability's text, or that there is none, is the document's. Conditions: none but the row's own.
-/
import Derived.Test.YtgjepahhbecljaaDoorWakes13
import Derived.Test.YtgjepahhbecljaaDoorTied
namespace Go.Proofs.YtgjepahhbecljaaDoor.LawCapsPrints
open Go Go.RowKit Go.ChangeShapes Go.WideShapes Go.ChangeAt
set_option linter.unusedVariables false
set_option maxRecDepth 100000

theorem cut_in {c : CapD} (h : c.In) : (cutF c).In := { h with litB := fun x hx => h.litB x (List.mem_of_mem_take hx) }
set_option maxHeartbeats 8000000 in
theorem walk (w : World) (ht : Tab w w.heap.size) (c : CapD) (lit : Value) (hc : c.In) (hl : Bs w w.heap.size lit c.lit) (right : Bool) :
    Calls Tryd.prog 3 #[capV c lit, .bool right] w fun e w' => e = .returned (.bool true) ∧ Below w.heap.size w w' := by
  have H3 := hide hl.one
  have HL := hide hl
  have HC := hide hc
  have HT := hide ht
  have H1 := hide hc.keyL
  have H2 := hide hc.fpL
  have HRW := hide (right_wf (cut_in hc).toWf)
  have HCUT := hide (fun (w1 : World) (hs : w1.heap.size = w.heap.size + 1) (hw : Below w.heap.size w w1) => cutc_any c lit w1 hc.keyL hc.fpL w.heap.size (by omega) (hl.below hw (Nat.le_refl _)))
  clear hc hl ht
  obtain ⟨CV, HCV⟩ : ∃ x, Hid (capV c lit = x) := ⟨_, hide rfl⟩
  rw [HCV.out] at HCUT ⊢
  cases right
  case false =>
    go_enter Tryd.func3, Tryd.ntmps3
    go_upto_region 4 with (first
      | (refine wpList_cap_new _ rfl (HCV.out.symm) rfl H1.out H2.out H3.out ?_; intro w1 hb1 hw1 hs1; have HB := hide hb1; have HW := hide hw1; clear hb1 hw1)
      | (refine wpList_cap_all _ rfl rfl rfl HB.out ?_; rw [HCV.out])
      | (go_at_call 14; refine (HCUT.out w1 hs1 HW.out).mono ?_; rintro e w2 ⟨l1, rfl, hl1, hb2⟩; have hs2 := hb2.size; replace HB := hide (HB.out.below hb2 HB.out.lt); replace HW := hide (HW.out.trans (hb2.mono HW.out.size)); have HL1 := hide hl1; clear hl1 hb2)
      | (refine wpList_cap_putAll _ _ rfl rfl rfl HB.out (cutF c) l1 rfl H1.out H2.out HL1.out.one ?_; intro w3 hb3 hg3 hs3; replace HB := hide hb3; replace HW := hide (HW.out.grown hg3 HW.out.size (by intro k hk; simp at hk; omega)); replace HL1 := hide (HL1.out.below ((Below.refl w.heap.size w2).grown hg3 (by omega) (by intro k hk; simp at hk; omega)) (Nat.le_refl _)); clear hb3 hg3))
    have HROW := hide (show Bs w3 w3.heap.size l1 (cutF c).lit from HL1.out.more (by have := HW.out.size; omega))
    have HWF := hide (cut_in HC.out).toWf
    have HSM := hide (show (cutF c).lit.length ≤ 1000 by have := cutF_len c; omega)
    obtain ⟨D, HD⟩ : ∃ x, Hid ((cutF c) = x) := ⟨_, hide rfl⟩
    rw [HD.out] at HROW HWF HSM HB
    try rw [HD.out]
    obtain ⟨DV, HDV⟩ : ∃ x, Hid (capV D l1 = x) := ⟨_, hide rfl⟩
    have HPA := hide (fun (w' : World) (h : Bs w' w'.heap.size l1 D.lit) (ht : Tab w' w'.heap.size) => Print_any D l1 w' { toWf := HWF.out, row := h, small := HSM.out } ht)
    have HPR := hide (fun (w' : World) (h : Bs w' w'.heap.size l1 D.lit) => Print_ref D l1 w' { toWf := HWF.out, row := h, small := HSM.out })
    rw [HDV.out] at HPA HPR
    obtain ⟨PS, HPS⟩ : ∃ x, Hid (printS D = x) := ⟨_, hide rfl⟩
    obtain ⟨PE, HPE⟩ : ∃ x, Hid (printE D = x) := ⟨_, hide rfl⟩
    rw [HPS.out, HPE.out] at HPA HPR
    replace HT := hide ((HT.out.below HW.out (Nat.le_refl _)).more HW.out.size)
    go_wp2_with (first
      | (refine wpList_cap_all _ rfl rfl rfl HB.out ?_; rw [HDV.out])
      | (go_at_call 16; refine (HPA.out w3 HROW.out HT.out).mono ?_; rintro e w6 ⟨rfl, hb6⟩; have hs6 := hb6.size; replace HB := hide (HB.out.below hb6 HB.out.lt); replace HW := hide (HW.out.trans (hb6.mono HW.out.size)); replace HT := hide ((HT.out.below hb6 (Nat.le_refl _)).more hs6); replace HROW := hide ((HROW.out.below hb6 (Nat.le_refl _)).more hs6); clear hb6)
      | (go_at_call 17; refine (HPR.out w6 HROW.out).mono ?_; rintro e w7 ⟨rfl, hb7⟩; have hs7 := hb7.size; replace HW := hide (HW.out.trans (hb7.mono HW.out.size)); replace HT := hide ((HT.out.below hb7 (Nat.le_refl _)).more hs7); clear hb7)
      | (go_at_call 18; refine (wakes13 w7 HT.out).mono ?_; rintro e w8 ⟨rfl, hb8⟩; replace HW := hide (HW.out.trans (hb8.mono HW.out.size)); clear hb8))
    go_ret
    exact ⟨rfl, HW.out⟩
  case true =>
    go_enter Tryd.func3, Tryd.ntmps3
    go_upto_region 3 with (first
      | (refine wpList_cap_new _ rfl (HCV.out.symm) rfl H1.out H2.out H3.out ?_; intro w1 hb1 hw1 hs1; have HB := hide hb1; have HW := hide hw1; clear hb1 hw1)
      | (refine wpList_cap_all _ rfl rfl rfl HB.out ?_; rw [HCV.out])
      | (go_at_call 14; refine (HCUT.out w1 hs1 HW.out).mono ?_; rintro e w2 ⟨l1, rfl, hl1, hb2⟩; have hs2 := hb2.size; replace HB := hide (HB.out.below hb2 HB.out.lt); replace HW := hide (HW.out.trans (hb2.mono HW.out.size)); have HL1 := hide hl1; clear hl1 hb2)
      | (refine wpList_cap_putAll _ _ rfl rfl rfl HB.out (cutF c) l1 rfl H1.out H2.out HL1.out.one ?_; intro w3 hb3 hg3 hs3; replace HB := hide hb3; replace HW := hide (HW.out.grown hg3 HW.out.size (by intro k hk; simp at hk; omega)); replace HL1 := hide (HL1.out.below ((Below.refl w.heap.size w2).grown hg3 (by omega) (by intro k hk; simp at hk; omega)) (Nat.le_refl _)); clear hb3 hg3))
    go_upto_region 4 with (first
      | (refine wpList_cap_all _ rfl rfl rfl HB.out ?_)
      | (go_at_call 15; refine (right_any (cutF c) l1 _ (cut_in HC.out) (HL1.out.more (by omega)) (by have := cutF_len c; omega)).mono ?_; rintro e w4 ⟨l4, rfl, hl4, hb4⟩; have hs4 := hb4.size; replace HB := hide (HB.out.below hb4 HB.out.lt); replace HW := hide (HW.out.trans (hb4.mono HW.out.size)); have HO := hide hl4; have HL4 := hide (own_one hl4 l4 (by simp)); clear hl4 hb4)
      | (refine wpList_cap_putAll _ _ rfl rfl rfl HB.out (rightF (cutF c)) l4 rfl HRW.out.keyL HRW.out.fpL HL4.out ?_; intro w5 hb5 hg5 hs5; have HOB := HB; replace HB := hide hb5; replace HW := hide (HW.out.grown hg5 HW.out.size (by intro k hk; simp at hk; omega)); replace HO := hide (World.ownsRow.kept HO.out hg5 (.inr (by rintro h; exact own_ne_blk HO.out HOB.out.blk (by decide) h.symm))); clear hb5 hg5))
    have HROW := hide (show Bs w5 w5.heap.size l4 (rightF (cutF c)).lit from Rd.of_own HO.out)
    have HWF := HRW
    have HSM := hide (show (rightF (cutF c)).lit.length ≤ 1000 by have := right_lit (cutF c); omega)
    obtain ⟨D, HD⟩ : ∃ x, Hid ((rightF (cutF c)) = x) := ⟨_, hide rfl⟩
    rw [HD.out] at HROW HWF HSM HB
    try rw [HD.out]
    obtain ⟨DV, HDV⟩ : ∃ x, Hid (capV D l4 = x) := ⟨_, hide rfl⟩
    have HPA := hide (fun (w' : World) (h : Bs w' w'.heap.size l4 D.lit) (ht : Tab w' w'.heap.size) => Print_any D l4 w' { toWf := HWF.out, row := h, small := HSM.out } ht)
    have HPR := hide (fun (w' : World) (h : Bs w' w'.heap.size l4 D.lit) => Print_ref D l4 w' { toWf := HWF.out, row := h, small := HSM.out })
    rw [HDV.out] at HPA HPR
    obtain ⟨PS, HPS⟩ : ∃ x, Hid (printS D = x) := ⟨_, hide rfl⟩
    obtain ⟨PE, HPE⟩ : ∃ x, Hid (printE D = x) := ⟨_, hide rfl⟩
    rw [HPS.out, HPE.out] at HPA HPR
    replace HT := hide ((HT.out.below HW.out (Nat.le_refl _)).more HW.out.size)
    go_wp2_with (first
      | (refine wpList_cap_all _ rfl rfl rfl HB.out ?_; rw [HDV.out])
      | (go_at_call 16; refine (HPA.out w5 HROW.out HT.out).mono ?_; rintro e w6 ⟨rfl, hb6⟩; have hs6 := hb6.size; replace HB := hide (HB.out.below hb6 HB.out.lt); replace HW := hide (HW.out.trans (hb6.mono HW.out.size)); replace HT := hide ((HT.out.below hb6 (Nat.le_refl _)).more hs6); replace HROW := hide ((HROW.out.below hb6 (Nat.le_refl _)).more hs6); clear hb6)
      | (go_at_call 17; refine (HPR.out w6 HROW.out).mono ?_; rintro e w7 ⟨rfl, hb7⟩; have hs7 := hb7.size; replace HW := hide (HW.out.trans (hb7.mono HW.out.size)); replace HT := hide ((HT.out.below hb7 (Nat.le_refl _)).more hs7); clear hb7)
      | (go_at_call 18; refine (wakes13 w7 HT.out).mono ?_; rintro e w8 ⟨rfl, hb8⟩; replace HW := hide (HW.out.trans (hb8.mono HW.out.size)); clear hb8))
    go_ret
    exact ⟨rfl, HW.out⟩
set_option maxRecDepth 100000 in
theorem lifted (os : Os) (started : os.Started) (H : Type) (enc : TypeId × Value → H) :
    ReturnsInHanded {} Tryd.checked os 3 .any (fun w args => (Rows.capsPrintsSpec.pre enc Tryd.prog Tryd.f3 [] false w args ∧ laidMetH Tryd.prog laidD w) ∧ sizedMet enc Tryd.prog Tryd.f3 (OpenSpec.ofChange Rows.capsPrintsSpec) false w args)
      (Rows.capsPrintsSpec.post enc Tryd.prog Tryd.f3 false true false false) := by
  refine returnsInHanded_of_change_and (C := Tryd.checked) (X := fun w _ => laidMetH Tryd.prog laidD w) (fun _ _ _ hh h => h.of_heap hh) own started (by kernel_rfl) Tryd.func3
    (ChangeSpec.witness_shaped (enc := enc) (C := Tryd.checked) (os := os) (X := fun w _ => laidMetH Tryd.prog laidD w) false (World.doorLaid Tryd.prog doorSteps os) #[capV CapD.none_ (.slice none 0 0), .bool false] 8 rfl (World.shaped_of_RefB (by kernel_rfl) (by kernel_rfl)) (by kernel_rfl) (by kernel_rfl) (by kernel_rfl) (door_met os _)) ?_
  intro W base args ds gs before hval0 hW _ _ hL _
  have hT := tab_of hL
  have hval : ∀ (j : Nat) t v, Tryd.f3.params[j]? = some t → args[j]? = some v → Value.okWide Tryd.prog W .any base t v := hval0
  have hW' := hW
  obtain ⟨p, q, hA0, hV, rfl, hfz, hnd⟩ := hW
  have hA : DataW.TrodAll enc Tryd.prog W 0 (fun _ => true) true Tryd.f3.params.toList args.toList ds p := hA0
  rw [Tryd.params3] at hA hval
  obtain ⟨v0, vs0, d0, ds0, p0, q0, hargs, rfl, rfl, h0, r0⟩ := trodAll_cons hA
  obtain ⟨v1, vs1, d1, ds1, p1, q1, rfl, rfl, rfl, h1, r1⟩ := trodAll_cons r0
  obtain ⟨rfl, rfl, rfl⟩ := trodAll_nil r1
  obtain rfl : args = #[v0, v1] := by cases args; simp_all
  obtain ⟨rfl, rfl⟩ := trodVars_none hV
  have k0 := h0
  have lt0 : ∀ x ∈ p0, x.block < W.heap.size := by obtain ⟨m, hm⟩ := k0; exact DataW.trod_lt m _ _ _ hm
  obtain ⟨z0, l0, rfl, w0, b0⟩ := read_cap (hval 0 28 v0 rfl rfl) h0
  obtain ⟨a1, rfl, rfl, rfl⟩ := open_bool Tryd.underlying4 (hval 1 4 v1 rfl rfl) h1
  clear hA0 hval0
  refine (walk W hT z0 l0 w0 b0 a1).mono fun e W' ⟨he, bel⟩ => ?_
  subst he
  exact ⟨_, rfl, _, _, _, [], _, [], hW', trodAll_mk1 (shut_bool Tryd.underlying4 _), (trodAll_cons_mk (Below.trod laidOut (by kernel_rfl) (of_decide_eq_true (by kernel_rfl)) k0 bel lt0) (trodAll_cons_mk (shut_bool Tryd.underlying4 _) trodAll_mk0)), rfl, bel.frame _, fun h => by cases h⟩

theorem over : Rows.capsPrintsRow.holds Tryd.pinned (OpenSpec.ofChange Rows.capsPrintsSpec) :=
  OpenClaim.holds_of_wide 3 Tryd.f3 rfl rfl rfl rfl rfl rfl rfl ⟨rfl, rfl, rfl, rfl, rfl⟩ rfl rfl rfl rfl rfl (by kernel_rfl) Tryd.func3 (by kernel_rfl)
    (of_decide_eq_true (by kernel_rfl)) (by unfold Func.isWrapper; rw [if_neg (of_decide_eq_false (by kernel_rfl))]; exact ⟨rfl, rfl⟩)
    (fun os started H enc _ => lifted os started H enc)

theorem proved : Rows.CapsPrintsCardSaid :=
  Claim7.holds_tied_plain_at .later [] Rows.capsPrintsCard.laidKinds true Rows.capsPrintsCard.stood.harness Rows.capsPrintsCard.stood.looks
    over (fun _ h => by cases h) (by kernel_rfl) (fun _ h => by cases h) capsPrints_row_tie rfl ⟨rfl, rfl⟩ (by kernel_rfl) rfl
    (fun f fn hf hfn => by
      obtain rfl : f = 3 := Option.some.inj ((show Tryd.prog.funcNamed "aumbry/aumbrylaw13.CapsPrints" = some 3 by kernel_rfl).symm.trans hf) |>.symm
      obtain rfl : fn = Tryd.f3 := (Option.some.inj (Tryd.func3.symm.trans hfn)).symm
      exact ⟨by kernel_rfl, fun j t ht => by
        have ht' : Tryd.f3.params[j]? = some t := ht
        rw [Tryd.params3] at ht'
        have hm : t ∈ [28, 4] := by simpa using Array.mem_of_getElem? ht'
        have hall : ([28, 4].all fun u => !Tryd.prog.wantsStandIn u) = true := by kernel_rfl
        exact (show Tryd.prog.wantsStandIn t = false by simpa using List.all_eq_true.1 hall t hm)⟩)
    (by kernel_rfl)
end Go.Proofs.YtgjepahhbecljaaDoor.LawCapsPrints
