/- P1.3: letters of any bytes, and bytes of any letters, or that there are none: the program's and the reference's. Condition: the library's tables are laid (tied to the program's text). -/
import Derived.Test.YtijhcdmjiclnnaaDoorFrameBytes
import Derived.Test.YtijhcdmjiclnnaaDoorTied
import Derived.Test.YtijhcdmjiclnnaaDoorWakes01
import Derived.Test.YtijhcdmjiclnnaaDoorBy32Ref
import Derived.ChangeMaps5
namespace Go.Proofs.YtijhcdmjiclnnaaDoor.LawCodeBases
open Go Go.RowKit Go.ChangeShapes Go.WideShapes Go.ChangeAt Go.Proofs.YtijhcdmjiclnnaaDoor
set_option linter.unusedVariables false

set_option maxHeartbeats 2000000 in
theorem walk (w : World) (ht : Tab w w.heap.size) (v : Value) (b : List Int) (hv : Bs w w.heap.size v b) (hb : Bytes b) (s : ByteArray) (hsz : s.size ≤ maxLen) :
    Calls Tryd.prog 9 #[v, .string s] w fun e w' => e = .returned (.bool true) ∧ Below w.heap.size w w' := by
  have HT := hide ht
  have HCUT := hide (cut_bytes v b 200 w w.heap.size hv (by omega) (by omega))
  obtain ⟨A, cp, rfl, h1, h2, h3⟩ := hv.open_
  have HBC := hide (show Bytes (b.take (200 : Int).toNat) from fun x hx => hb x (List.mem_of_mem_take hx))
  have hlen : (b.take (200 : Int).toNat).length ≤ 200 := by rw [List.length_take]; exact Nat.min_le_left _ _
  obtain ⟨c, HC⟩ : ∃ c, Hid (b.take (200 : Int).toNat = c) := ⟨_, hide rfl⟩
  rw [HC.out] at HCUT HBC hlen
  unfold maxLen at h2 hsz
  clear ht hv hb h3 HC
  have HX1 := hide (fun v w h => Base32_any v c w h HBC.out (by omega))
  have HX2 := hide (fun v w h => Base32_ref v c w h HBC.out (by omega))
  obtain ⟨t, HTT⟩ : ∃ t, Hid (strOfNums (b32F c) = t) := ⟨_, hide rfl⟩
  simp only [HTT.out] at HX1 HX2
  have htt : (t.toList == t.toList) = true := by simp
  clear HTT
  go_enter Tryd.func9, Tryd.ntmps9
  go_wp2_with fail
  refine HCUT.out.mono ?_
  rintro e w' ⟨v1, rfl, hv1, rfl⟩
  have HV1 := hide hv1
  obtain ⟨A1, c1, rfl, h11, h12, h13⟩ := hv1.open_
  obtain ⟨N, HN⟩ : ∃ n, Hid (c.length = n) := ⟨_, hide rfl⟩
  rw [HN.out] at HV1 h11 hlen
  rw [HN.out]
  unfold maxLen at h12
  clear hv1 h13
  have HBr := hide (Below.refl w.heap.size w)
  by_cases h200 : 200 < s.size
  · have g200 : (200 : Int) < (s.size : Int) := by omega
    go_wp2_with fail
    refine (wakes01 w ((HT.out.below HBr.out (Nat.le_refl _)).more (by omega))).mono ?_
    rintro e w9 ⟨rfl, hb9⟩
    have HB9 := hide (HBr.out.trans (hb9.mono (by omega)))
    clear hb9
    go_wp2_with fail
    go_ret
    exact ⟨rfl, HB9.out⟩
  have g200 : ¬ (200 : Int) < (s.size : Int) := by omega
  have HY1 := hide (Bytes32_any s w (by omega))
  have HY2 := hide (fun w' => Bytes32_ref s w' (by omega))
  go_wp2_with fail
  refine HY1.out.mono ?_
  rintro e w1 (⟨v17, y, hy, rfl, ho17, hb1⟩ | ⟨hy, rfl, hb1⟩)
  · have HO1 := hide ho17
    have HB1 := hide hb1
    have hz1 := hb1.size
    clear ho17 hb1
    go_wp2_with fail
    refine (HY2.out w1).mono ?_
    rintro e w2 (⟨v22, y2, hy2, rfl, ho22, hb2⟩ | ⟨hy2, _⟩)
    case inr => rw [hy] at hy2; cases hy2
    rw [hy] at hy2
    injection hy2 with hy2
    subst hy2
    have HO2 := hide ho22
    have HO1' := hide (HO1.out.keptB hb2)
    have HB2 := hide (HB1.out.trans (hb2.mono hz1))
    have hz2 := hb2.size
    have HV2 := hide (HV1.out.below HB2.out (Nat.le_refl _))
    clear ho22 hb2 hy HO1 HB1 HY1 HY2
    go_wp2_with fail
    refine (HX1.out _ w2 (HV2.out.more (by omega))).mono ?_
    rintro e w3 ⟨rfl, hb3⟩
    have HB3 := hide (HB2.out.trans (hb3.mono (by omega)))
    have hz3 := hb3.size
    have HO3 := hide ((HO1'.out.keptB hb3))
    have HO4 := hide ((HO2.out.keptB hb3))
    have HV3 := hide (HV2.out.below hb3 (by omega))
    clear hb3
    go_wp2_with fail
    refine (HX2.out _ w3 (HV3.out.more (by omega))).mono ?_
    rintro e w4 ⟨rfl, hb4⟩
    have HB4 := hide (HB3.out.trans (hb4.mono (by omega)))
    have hz4 := hb4.size
    have HO5 := hide ((HO3.out.keptB hb4))
    have HO6 := hide ((HO4.out.keptB hb4))
    clear hb4
    go_wp2_with fail
    refine (same_bytes _ _ y y w4 w4.heap.size HO5.out.reads HO6.out.reads (Nat.le_refl _)).mono ?_
    rintro e w5 ⟨rfl, hb5⟩
    rw [decide_eq_true rfl]
    have HB5 := hide (HB4.out.trans (hb5.mono (by omega)))
    have hz5 := hb5.size
    clear hb5
    go_wp2_with fail
    refine (wakes01 w5 ((HT.out.below HB5.out (Nat.le_refl _)).more (by omega))).mono ?_
    rintro e w9 ⟨rfl, hb9⟩
    have HB9 := hide (HB5.out.trans (hb9.mono (by omega)))
    clear hb9
    go_wp2_with fail
    go_ret
    exact ⟨rfl, HB9.out⟩
  · have HB1 := hide hb1
    have hz1 := hb1.size
    clear hb1
    go_wp2_with fail
    refine (HY2.out w1).mono ?_
    rintro e w2 (⟨v22, y2, hy2, _⟩ | ⟨hy2, rfl, hb2⟩)
    case inl => rw [hy] at hy2; cases hy2
    have HB2 := hide (HB1.out.trans (hb2.mono hz1))
    have hz2 := hb2.size
    have HV2 := hide (HV1.out.below HB2.out (Nat.le_refl _))
    clear hb2 hy hy2 HB1 HY1 HY2
    go_wp2_with fail
    refine (HX1.out _ w2 (HV2.out.more (by omega))).mono ?_
    rintro e w3 ⟨rfl, hb3⟩
    have HB3 := hide (HB2.out.trans (hb3.mono (by omega)))
    have hz3 := hb3.size
    have HV3 := hide (HV2.out.below hb3 (by omega))
    clear hb3
    go_wp2_with fail
    refine (HX2.out _ w3 (HV3.out.more (by omega))).mono ?_
    rintro e w4 ⟨rfl, hb4⟩
    have HB4 := hide (HB3.out.trans (hb4.mono (by omega)))
    have hz4 := hb4.size
    clear hb4
    go_wp2_with fail
    refine (same_bytes _ _ [] [] w4 w4.heap.size (Bs.nil_ _ _) (Bs.nil_ _ _) (Nat.le_refl _)).mono ?_
    rintro e w5 ⟨rfl, hb5⟩
    rw [decide_eq_true rfl]
    have HB5 := hide (HB4.out.trans (hb5.mono (by omega)))
    have hz5 := hb5.size
    clear hb5
    go_wp2_with fail
    refine (wakes01 w5 ((HT.out.below HB5.out (Nat.le_refl _)).more (by omega))).mono ?_
    rintro e w9 ⟨rfl, hb9⟩
    have HB9 := hide (HB5.out.trans (hb9.mono (by omega)))
    clear hb9
    go_wp2_with fail
    go_ret
    exact ⟨rfl, HB9.out⟩

set_option maxRecDepth 100000 in
theorem lifted (os : Os) (started : os.Started) (H : Type) (enc : TypeId × Value → H) :
    ReturnsInHanded {} Tryd.checked os 9 .any (fun w args => (Rows.codeBasesSpec.pre enc Tryd.prog Tryd.f9 [] false w args ∧ laidMetH Tryd.prog laidD w) ∧ sizedMet enc Tryd.prog Tryd.f9 (OpenSpec.ofChange Rows.codeBasesSpec) false w args)
      (Rows.codeBasesSpec.post enc Tryd.prog Tryd.f9 false true false false) := by
  refine returnsInHanded_of_change_and (C := Tryd.checked) (X := fun w _ => laidMetH Tryd.prog laidD w) (fun _ _ _ hh h => h.of_heap hh) own started (by kernel_rfl) Tryd.func9
    (ChangeSpec.witness_shaped (enc := enc) (C := Tryd.checked) (os := os) (X := fun w _ => laidMetH Tryd.prog laidD w) false (World.doorLaid Tryd.prog doorSteps os) #[.slice none 0 0, .string { data := #[] }] 8 rfl (World.shaped_of_RefB (by kernel_rfl) (by kernel_rfl)) (by kernel_rfl) (by kernel_rfl) (by kernel_rfl) (door_met os _)) ?_
  intro W base args ds gs before hval0 hW _ _ hL _
  have hT := tab_of hL
  have hval : ∀ (j : Nat) t v, Tryd.f9.params[j]? = some t → args[j]? = some v → Value.okWide Tryd.prog W .any base t v := hval0
  have hW' := hW
  obtain ⟨p, q, hA0, hV, rfl, hfz, hnd⟩ := hW
  have hA : DataW.TrodAll enc Tryd.prog W 0 (fun _ => true) true Tryd.f9.params.toList args.toList ds p := hA0
  rw [Tryd.params9] at hA hval
  obtain ⟨v0, vs0, d0, ds0, p0, q0, hargs, rfl, rfl, h0, r0⟩ := trodAll_cons hA
  obtain ⟨v1, vs1, d1, ds1, p1, q1, rfl, rfl, rfl, h1, r1⟩ := trodAll_cons r0
  obtain ⟨rfl, rfl, rfl⟩ := trodAll_nil r1
  obtain rfl : args = #[v0, v1] := by cases args; simp_all
  obtain ⟨rfl, rfl⟩ := trodVars_none hV
  obtain ⟨s0, len0, cap0, rfl⟩ := okWide_slice Tryd.underlying23 (hval 0 23 v0 rfl rfl)
  have k0 := h0
  have lt0 : ∀ x ∈ p0, x.block < W.heap.size := by obtain ⟨m, hm⟩ := k0; exact DataW.trod_lt m _ _ _ hm
  obtain ⟨z0, w0, b0⟩ := read_bytes h0
  obtain ⟨a1, rfl, rfl, rfl, sz1⟩ := Go.ChangeMaps.open_string Tryd.underlying9 (hval 1 9 v1 rfl rfl) h1
  clear hA0 hval0
  refine (walk W hT _ z0 w0 b0 a1 sz1).mono fun e W' ⟨he, bel⟩ => ?_
  subst he
  exact ⟨_, rfl, _, _, _, [], _, [], hW', trodAll_mk1 (shut_bool Tryd.underlying4 _), (trodAll_cons_mk (Below.trod laidOut (by kernel_rfl) (of_decide_eq_true (by kernel_rfl)) k0 bel lt0) (trodAll_cons_mk (Go.ChangeMaps.shut_string Tryd.underlying9 sz1) trodAll_mk0)), rfl, bel.frame _, fun h => by cases h⟩

theorem over : Rows.codeBasesRow.holds Tryd.pinned (OpenSpec.ofChange Rows.codeBasesSpec) :=
  OpenClaim.holds_of_wide 9 Tryd.f9 rfl rfl rfl rfl rfl rfl rfl ⟨rfl, rfl, rfl, rfl, rfl⟩ rfl rfl rfl rfl rfl (by kernel_rfl) Tryd.func9 (by kernel_rfl)
    (of_decide_eq_true (by kernel_rfl)) (by unfold Func.isWrapper; rw [if_neg (of_decide_eq_false (by kernel_rfl))]; exact ⟨rfl, rfl⟩)
    (fun os started H enc _ => lifted os started H enc)

theorem proved : Rows.CodeBasesCardSaid :=
  Claim7.holds_tied_plain_at .later [] Rows.codeBasesCard.laidKinds true Rows.codeBasesCard.stood.harness false
    over (fun _ h => by cases h) (by kernel_rfl) (fun _ h => by cases h) codeBases_row_tie rfl ⟨rfl, rfl⟩ (by kernel_rfl) rfl
    (fun f fn hf hfn => by
      obtain rfl : f = 9 := Option.some.inj ((show Tryd.prog.funcNamed "aumbry/aumbrylaw01.CodeBases" = some 9 by kernel_rfl).symm.trans hf) |>.symm
      obtain rfl : fn = Tryd.f9 := (Option.some.inj (Tryd.func9.symm.trans hfn)).symm
      exact ⟨by kernel_rfl, fun j t ht => by
        have ht' : Tryd.f9.params[j]? = some t := ht
        rw [Tryd.params9] at ht'
        have hm : t ∈ [23, 9] := by simpa using Array.mem_of_getElem? ht'
        have hall : ([23, 9].all fun u => !Tryd.prog.wantsStandIn u) = true := by kernel_rfl
        exact (show Tryd.prog.wantsStandIn t = false by simpa using List.all_eq_true.1 hall t hm)⟩)
    (by kernel_rfl)
end Go.Proofs.YtijhcdmjiclnnaaDoor.LawCodeBases
