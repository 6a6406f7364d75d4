/- P1.2: the row at the beginning of any bytes, and what is behind it, or that there is none: the program's and the reference's. Condition: the library's tables are laid (tied to the program's text). -/
import Derived.Test.YtijhcdmjiclnnaaDoorFrameBytes
import Derived.Test.YtijhcdmjiclnnaaDoorTied
import Derived.Test.YtijhcdmjiclnnaaDoorWakes01
import Derived.Test.YtijhcdmjiclnnaaDoorTakesRef
import Derived.Test.YtijhcdmjiclnnaaDoorRowsEq
import Derived.Test.YtijhcdmjiclnnaaDoorWithin
namespace Go.Proofs.YtijhcdmjiclnnaaDoor.LawCodeTakes
open Go Go.RowKit Go.ChangeShapes Go.WideShapes Go.ChangeAt Go.Proofs.YtijhcdmjiclnnaaDoor
set_option linter.unusedVariables false

set_option maxHeartbeats 4000000 in
theorem walk (w : World) (ht : Tab w w.heap.size) (v : Value) (b : List Int) (hv : Bs w w.heap.size v b) (hb : Bytes b) (n : Int) (hin : In64 n) :
    Calls Tryd.prog 11 #[v, .int .i64 n] w fun e w' => e = .returned (.bool true) ∧ Below w.heap.size w w' := by
  have HT := hide ht
  have HCUT := hide (cut_bytes v b 400 w w.heap.size hv (by omega) (by omega))
  obtain ⟨A, cp, rfl, h1, h2, h3⟩ := hv.open_
  have HBC := hide (show Bytes (b.take (400 : Int).toNat) from fun x hx => hb x (List.mem_of_mem_take hx))
  have hlen : (b.take (400 : Int).toNat).length ≤ 400 := by rw [List.length_take]; exact Nat.min_le_left _ _
  obtain ⟨c, HC⟩ : ∃ c, Hid (b.take (400 : Int).toNat = c) := ⟨_, hide rfl⟩
  rw [HC.out] at HCUT HBC hlen
  obtain ⟨ha1, ha2⟩ := hin
  unfold maxLen at h2
  clear ht hv hb h3 HC
  go_enter Tryd.func11, Tryd.ntmps11
  go_wp2_with fail
  refine HCUT.out.mono ?_
  rintro e w' ⟨v1, rfl, hv1, rfl⟩
  have HV1 := hide hv1
  clear hv1
  go_wp2_with fail
  refine (within_any n 9 w ha1 ha2 (by omega)).mono ?_
  rintro e w' ⟨rfl, rfl⟩
  obtain ⟨m, ek, hk⟩ : ∃ a : Nat, within n 9 = (a : Int) ∧ a < 9 := by
    unfold within; rw [if_neg (by omega)]
    exact ⟨(n % 9).toNat, by omega, by omega⟩
  rw [ek]
  clear ek
  have C1 := hide (TakeNet_any v1 c w HV1.out HBC.out (by omega))
  have C2 := hide (fun (w' : World) (h : Below w.heap.size w w') => TakeNet_ref v1 c w' w.heap.size h.size (HV1.out.below h (Nat.le_refl _)) HBC.out (by omega))
  have C3 := hide (fun (w' : World) (h : Below w.heap.size w w') => TakeNets_any v1 c ((m : Int) - 1) w' ((HV1.out.below h (Nat.le_refl _)).more h.size) HBC.out (by omega) ⟨by omega, by omega⟩)
  have C4 := hide (fun (w' : World) (h : Below w.heap.size w w') => TakeNets_ref v1 c ((m : Int) - 1) w' ((HV1.out.below h (Nat.le_refl _)).more h.size) HBC.out (by omega) ⟨by omega, by omega⟩)
  have htt : (true == true) = true := rfl
  have hff : (false == false) = true := rfl
  go_wp2_with fail
  refine C1.out.mono ?_
  rintro e w1 (⟨vx, vr, x, r, hx, rfl, hox, hor, hb1⟩ | ⟨hx, rfl, rfl⟩)
  · have HOX := hide hox
    have HOR := hide hor
    have HB1 := hide hb1
    have hz1 := hb1.size
    clear hox hor hb1
    go_wp2_with fail
    refine (C2.out w1 HB1.out).mono ?_
    rintro e w2 (⟨vy, vs, y, s, hy, rfl, hoy, hos, hb2⟩ | ⟨hy, _, _⟩)
    case inr => rw [hx] at hy; cases hy
    rw [hx] at hy
    injection hy with hy
    injection hy with hy1 hy2
    subst hy1 hy2
    have HOY := hide hoy
    have HOS := hide hos
    have HB2 := hide (HB1.out.trans (hb2.mono hz1))
    have hz2 := hb2.size
    have HOX2 := hide (HOX.out.keptB hb2)
    have HOR2 := hide (HOR.out.keptB hb2)
    clear hoy hos hb2 HOX HOR hx
    go_wp2_with fail
    refine (C3.out w2 HB2.out).mono ?_
    rintro e w3 (⟨vl, l, hl, rfl, hol, hb3⟩ | ⟨hl, rfl, hb3⟩)
    · have HB3 := hide (HB2.out.trans (hb3.mono (by omega)))
      have hz3 := hb3.size
      have HOX3 := hide (HOX2.out.keptB hb3)
      have HOR3 := hide (HOR2.out.keptB hb3)
      have HOY3 := hide (HOY.out.below hb3 (by omega))
      have HOS3 := hide (HOS.out.below hb3 (by omega))
      have HOL := hide hol
      clear hol
      clear hb3
      go_wp2_with fail
      refine (C4.out w3 HB3.out).mono ?_
      rintro e w4 (⟨vm, m2, hm, rfl, hom, hb4⟩ | ⟨hm, _⟩)
      case inr => rw [hl] at hm; cases hm
      rw [hl] at hm
      injection hm with hm
      subst hm
      have HOM := hide (hom.reads (by have := hb4.size; omega))
      have HOL4 := hide ((HOL.out.keptB hb4 (by omega)).reads (by have := hb4.size; omega))
      clear hom HOL
      have HB4 := hide (HB3.out.trans (hb4.mono (by omega)))
      have hz4 := hb4.size
      have HOX4 := hide (HOX3.out.keptB hb4)
      have HOR4 := hide (HOR3.out.keptB hb4)
      have HOY4 := hide (HOY3.out.below hb4 (by omega))
      have HOS4 := hide (HOS3.out.below hb4 (by omega))
      clear hb4 hl C1 C2 C3 C4
      go_wp2_with fail
      refine (same_bytes _ _ x x w4 w4.heap.size (HOX4.out.reads) (HOY4.out.more (by omega)) (Nat.le_refl _)).mono ?_
      rintro e w5 ⟨rfl, hb_w5⟩
      rw [decide_eq_true rfl]
      have HB5 := hide (HB4.out.trans (hb_w5.mono (by omega)))
      have hz_w5 := hb_w5.size
      have HOR5 := hide (HOR4.out.keptB hb_w5)
      have HOS5 := hide (HOS4.out.below hb_w5 (by omega))
      have HOL5 := hide (HOL4.out.below hb_w5 (Nat.le_refl _))
      have HOM5 := hide (HOM.out.below hb_w5 (Nat.le_refl _))
      clear hb_w5
      go_wp2_with fail
      refine (same_bytes _ _ r r w5 w5.heap.size (HOR5.out.reads) (HOS5.out.more (by omega)) (Nat.le_refl _)).mono ?_
      rintro e w6 ⟨rfl, hb_w6⟩
      rw [decide_eq_true rfl]
      have HB6 := hide (HB5.out.trans (hb_w6.mono (by omega)))
      have hz_w6 := hb_w6.size
      have HOL6 := hide ((HOL5.out.below hb_w6 (by omega)).more (show w4.heap.size ≤ w6.heap.size by omega))
      have HOM6 := hide ((HOM5.out.below hb_w6 (by omega)).more (show w4.heap.size ≤ w6.heap.size by omega))
      clear hb_w6
      go_wp2_with fail
      refine (rows_bytes _ _ l l w6 HOL6.out HOM6.out).mono ?_
      rintro e w7 ⟨rfl, hb7⟩
      rw [decide_eq_true rfl]
      have HB7 := hide (HB6.out.trans (hb7.mono (by omega)))
      have hz7 := hb7.size
      clear hb7
      go_wp2_with fail
      refine (wakes01 w7 ((HT.out.below HB7.out (Nat.le_refl _)).more (by omega))).mono ?_
      rintro e w20 ⟨rfl, hb20⟩
      have HB20 := hide (HB7.out.trans (hb20.mono (by omega)))
      clear hb20
      go_wp2_with fail
      go_ret
      exact ⟨rfl, HB20.out⟩
    · have HB3 := hide (HB2.out.trans (hb3.mono (by omega)))
      have hz3 := hb3.size
      have HOX3 := hide (HOX2.out.keptB hb3)
      have HOR3 := hide (HOR2.out.keptB hb3)
      have HOY3 := hide (HOY.out.below hb3 (by omega))
      have HOS3 := hide (HOS.out.below hb3 (by omega))
      clear hb3
      go_wp2_with fail
      refine (C4.out w3 HB3.out).mono ?_
      rintro e w4 (⟨vm, m2, hm, _⟩ | ⟨hm, rfl, hb4⟩)
      case inl => rw [hl] at hm; cases hm
      have HB4 := hide (HB3.out.trans (hb4.mono (by omega)))
      have hz4 := hb4.size
      have HOX4 := hide (HOX3.out.keptB hb4)
      have HOR4 := hide (HOR3.out.keptB hb4)
      have HOY4 := hide (HOY3.out.below hb4 (by omega))
      have HOS4 := hide (HOS3.out.below hb4 (by omega))
      clear hb4 hl hm C1 C2 C3 C4
      go_wp2_with fail
      refine (same_bytes _ _ x x w4 w4.heap.size (HOX4.out.reads) (HOY4.out.more (by omega)) (Nat.le_refl _)).mono ?_
      rintro e w5 ⟨rfl, hb_w5⟩
      rw [decide_eq_true rfl]
      have HB5 := hide (HB4.out.trans (hb_w5.mono (by omega)))
      have hz_w5 := hb_w5.size
      have HOR5 := hide (HOR4.out.keptB hb_w5)
      have HOS5 := hide (HOS4.out.below hb_w5 (by omega))
      clear hb_w5
      go_wp2_with fail
      refine (same_bytes _ _ r r w5 w5.heap.size (HOR5.out.reads) (HOS5.out.more (by omega)) (Nat.le_refl _)).mono ?_
      rintro e w6 ⟨rfl, hb_w6⟩
      rw [decide_eq_true rfl]
      have HB6 := hide (HB5.out.trans (hb_w6.mono (by omega)))
      have hz_w6 := hb_w6.size
      clear hb_w6
      go_wp2_with fail
      refine (rows_bytes _ _ [] [] w6 (RowsB.nil_ _ _) (RowsB.nil_ _ _)).mono ?_
      rintro e w7 ⟨rfl, hb7⟩
      rw [decide_eq_true rfl]
      have HB7 := hide (HB6.out.trans (hb7.mono (by omega)))
      have hz7 := hb7.size
      clear hb7
      go_wp2_with fail
      refine (wakes01 w7 ((HT.out.below HB7.out (Nat.le_refl _)).more (by omega))).mono ?_
      rintro e w20 ⟨rfl, hb20⟩
      have HB20 := hide (HB7.out.trans (hb20.mono (by omega)))
      clear hb20
      go_wp2_with fail
      go_ret
      exact ⟨rfl, HB20.out⟩
  · have HB1 := hide (Below.refl w.heap.size w)
    have hz1 : w.heap.size ≤ w.heap.size := Nat.le_refl _
    go_wp2_with fail
    refine (C2.out w HB1.out).mono ?_
    rintro e w2 (⟨vy, vs, y, s, hy, _⟩ | ⟨hy, rfl, hb2⟩)
    case inl => rw [hx] at hy; cases hy
    have HB2 := hide hb2
    have hz2 := hb2.size
    clear hb2 hx hy
    go_wp2_with fail
    refine (C3.out w2 HB2.out).mono ?_
    rintro e w3 (⟨vl, l, hl, rfl, hol, hb3⟩ | ⟨hl, rfl, hb3⟩)
    · have HB3 := hide (HB2.out.trans (hb3.mono (by omega)))
      have hz3 := hb3.size
      have HOL := hide hol
      clear hol
      clear hb3
      go_wp2_with fail
      refine (C4.out w3 HB3.out).mono ?_
      rintro e w4 (⟨vm, m2, hm, rfl, hom, hb4⟩ | ⟨hm, _⟩)
      case inr => rw [hl] at hm; cases hm
      rw [hl] at hm
      injection hm with hm
      subst hm
      have HOM := hide (hom.reads (by have := hb4.size; omega))
      have HOL4 := hide ((HOL.out.keptB hb4 (by omega)).reads (by have := hb4.size; omega))
      clear hom HOL
      have HB4 := hide (HB3.out.trans (hb4.mono (by omega)))
      have hz4 := hb4.size
      clear hb4 hl C1 C2 C3 C4
      go_wp2_with fail
      refine (same_bytes _ _ [] [] w4 w4.heap.size (Bs.nil_ _ _) (Bs.nil_ _ _) (Nat.le_refl _)).mono ?_
      rintro e w5 ⟨rfl, hb_w5⟩
      rw [decide_eq_true rfl]
      have HB5 := hide (HB4.out.trans (hb_w5.mono (by omega)))
      have hz_w5 := hb_w5.size
      have HOL5 := hide (HOL4.out.below hb_w5 (Nat.le_refl _))
      have HOM5 := hide (HOM.out.below hb_w5 (Nat.le_refl _))
      clear hb_w5
      go_wp2_with fail
      refine (same_bytes _ _ [] [] w5 w5.heap.size (Bs.nil_ _ _) (Bs.nil_ _ _) (Nat.le_refl _)).mono ?_
      rintro e w6 ⟨rfl, hb_w6⟩
      rw [decide_eq_true rfl]
      have HB6 := hide (HB5.out.trans (hb_w6.mono (by omega)))
      have hz_w6 := hb_w6.size
      have HOL6 := hide ((HOL5.out.below hb_w6 (by omega)).more (show w4.heap.size ≤ w6.heap.size by omega))
      have HOM6 := hide ((HOM5.out.below hb_w6 (by omega)).more (show w4.heap.size ≤ w6.heap.size by omega))
      clear hb_w6
      go_wp2_with fail
      refine (rows_bytes _ _ l l w6 HOL6.out HOM6.out).mono ?_
      rintro e w7 ⟨rfl, hb7⟩
      rw [decide_eq_true rfl]
      have HB7 := hide (HB6.out.trans (hb7.mono (by omega)))
      have hz7 := hb7.size
      clear hb7
      go_wp2_with fail
      refine (wakes01 w7 ((HT.out.below HB7.out (Nat.le_refl _)).more (by omega))).mono ?_
      rintro e w20 ⟨rfl, hb20⟩
      have HB20 := hide (HB7.out.trans (hb20.mono (by omega)))
      clear hb20
      go_wp2_with fail
      go_ret
      exact ⟨rfl, HB20.out⟩
    · have HB3 := hide (HB2.out.trans (hb3.mono (by omega)))
      have hz3 := hb3.size
      clear hb3
      go_wp2_with fail
      refine (C4.out w3 HB3.out).mono ?_
      rintro e w4 (⟨vm, m2, hm, _⟩ | ⟨hm, rfl, hb4⟩)
      case inl => rw [hl] at hm; cases hm
      have HB4 := hide (HB3.out.trans (hb4.mono (by omega)))
      have hz4 := hb4.size
      clear hb4 hl hm C1 C2 C3 C4
      go_wp2_with fail
      refine (same_bytes _ _ [] [] w4 w4.heap.size (Bs.nil_ _ _) (Bs.nil_ _ _) (Nat.le_refl _)).mono ?_
      rintro e w5 ⟨rfl, hb_w5⟩
      rw [decide_eq_true rfl]
      have HB5 := hide (HB4.out.trans (hb_w5.mono (by omega)))
      have hz_w5 := hb_w5.size
      clear hb_w5
      go_wp2_with fail
      refine (same_bytes _ _ [] [] w5 w5.heap.size (Bs.nil_ _ _) (Bs.nil_ _ _) (Nat.le_refl _)).mono ?_
      rintro e w6 ⟨rfl, hb_w6⟩
      rw [decide_eq_true rfl]
      have HB6 := hide (HB5.out.trans (hb_w6.mono (by omega)))
      have hz_w6 := hb_w6.size
      clear hb_w6
      go_wp2_with fail
      refine (rows_bytes _ _ [] [] w6 (RowsB.nil_ _ _) (RowsB.nil_ _ _)).mono ?_
      rintro e w7 ⟨rfl, hb7⟩
      rw [decide_eq_true rfl]
      have HB7 := hide (HB6.out.trans (hb7.mono (by omega)))
      have hz7 := hb7.size
      clear hb7
      go_wp2_with fail
      refine (wakes01 w7 ((HT.out.below HB7.out (Nat.le_refl _)).more (by omega))).mono ?_
      rintro e w20 ⟨rfl, hb20⟩
      have HB20 := hide (HB7.out.trans (hb20.mono (by omega)))
      clear hb20
      go_wp2_with fail
      go_ret
      exact ⟨rfl, HB20.out⟩

set_option maxRecDepth 100000 in
theorem lifted (os : Os) (started : os.Started) (H : Type) (enc : TypeId × Value → H) :
    ReturnsInHanded {} Tryd.checked os 11 .any (fun w args => (Rows.codeTakesSpec.pre enc Tryd.prog Tryd.f11 [] false w args ∧ laidMetH Tryd.prog laidD w) ∧ sizedMet enc Tryd.prog Tryd.f11 (OpenSpec.ofChange Rows.codeTakesSpec) false w args)
      (Rows.codeTakesSpec.post enc Tryd.prog Tryd.f11 false true false false) := by
  refine returnsInHanded_of_change_and (C := Tryd.checked) (X := fun w _ => laidMetH Tryd.prog laidD w) (fun _ _ _ hh h => h.of_heap hh) own started (by kernel_rfl) Tryd.func11
    (ChangeSpec.witness_shaped (enc := enc) (C := Tryd.checked) (os := os) (X := fun w _ => laidMetH Tryd.prog laidD w) false (World.doorLaid Tryd.prog doorSteps os) #[.slice none 0 0, .int .i64 0] 8 rfl (World.shaped_of_RefB (by kernel_rfl) (by kernel_rfl)) (by kernel_rfl) (by kernel_rfl) (by kernel_rfl) (door_met os _)) ?_
  intro W base args ds gs before hval0 hW _ _ hL _
  have hT := tab_of hL
  have hval : ∀ (j : Nat) t v, Tryd.f11.params[j]? = some t → args[j]? = some v → Value.okWide Tryd.prog W .any base t v := hval0
  have hW' := hW
  obtain ⟨p, q, hA0, hV, rfl, hfz, hnd⟩ := hW
  have hA : DataW.TrodAll enc Tryd.prog W 0 (fun _ => true) true Tryd.f11.params.toList args.toList ds p := hA0
  rw [Tryd.params11] at hA hval
  obtain ⟨v0, vs0, d0, ds0, p0, q0, hargs, rfl, rfl, h0, r0⟩ := trodAll_cons hA
  obtain ⟨v1, vs1, d1, ds1, p1, q1, rfl, rfl, rfl, h1, r1⟩ := trodAll_cons r0
  obtain ⟨rfl, rfl, rfl⟩ := trodAll_nil r1
  obtain rfl : args = #[v0, v1] := by cases args; simp_all
  obtain ⟨rfl, rfl⟩ := trodVars_none hV
  obtain ⟨s0, len0, cap0, rfl⟩ := okWide_slice Tryd.underlying23 (hval 0 23 v0 rfl rfl)
  have k0 := h0
  have lt0 : ∀ x ∈ p0, x.block < W.heap.size := by obtain ⟨m, hm⟩ := k0; exact DataW.trod_lt m _ _ _ hm
  obtain ⟨z0, w0, b0⟩ := read_bytes h0
  obtain ⟨a1, rfl, rfl, rfl, wf1⟩ := open_int Tryd.underlying3 (hval 1 3 v1 rfl rfl) h1
  clear hA0 hval0
  refine (walk W hT _ z0 w0 b0 a1 (in64_wf wf1)).mono fun e W' ⟨he, bel⟩ => ?_
  subst he
  exact ⟨_, rfl, _, _, _, [], _, [], hW', trodAll_mk1 (shut_bool Tryd.underlying4 _), (trodAll_cons_mk (Below.trod laidOut (by kernel_rfl) (of_decide_eq_true (by kernel_rfl)) k0 bel lt0) (trodAll_cons_mk (shut_int Tryd.underlying3 wf1) trodAll_mk0)), rfl, bel.frame _, fun h => by cases h⟩

theorem over : Rows.codeTakesRow.holds Tryd.pinned (OpenSpec.ofChange Rows.codeTakesSpec) :=
  OpenClaim.holds_of_wide 11 Tryd.f11 rfl rfl rfl rfl rfl rfl rfl ⟨rfl, rfl, rfl, rfl, rfl⟩ rfl rfl rfl rfl rfl (by kernel_rfl) Tryd.func11 (by kernel_rfl)
    (of_decide_eq_true (by kernel_rfl)) (by unfold Func.isWrapper; rw [if_neg (of_decide_eq_false (by kernel_rfl))]; exact ⟨rfl, rfl⟩)
    (fun os started H enc _ => lifted os started H enc)

theorem proved : Rows.CodeTakesCardSaid :=
  Claim7.holds_tied_plain_at .later [] Rows.codeTakesCard.laidKinds true Rows.codeTakesCard.stood.harness false
    over (fun _ h => by cases h) (by kernel_rfl) (fun _ h => by cases h) codeTakes_row_tie rfl ⟨rfl, rfl⟩ (by kernel_rfl) rfl
    (fun f fn hf hfn => by
      obtain rfl : f = 11 := Option.some.inj ((show Tryd.prog.funcNamed "aumbry/aumbrylaw01.CodeTakes" = some 11 by kernel_rfl).symm.trans hf) |>.symm
      obtain rfl : fn = Tryd.f11 := (Option.some.inj (Tryd.func11.symm.trans hfn)).symm
      exact ⟨by kernel_rfl, fun j t ht => by
        have ht' : Tryd.f11.params[j]? = some t := ht
        rw [Tryd.params11] at ht'
        have hm : t ∈ [23, 3] := by simpa using Array.mem_of_getElem? ht'
        have hall : ([23, 3].all fun u => !Tryd.prog.wantsStandIn u) = true := by kernel_rfl
        exact (show Tryd.prog.wantsStandIn t = false by simpa using List.all_eq_true.1 hall t hm)⟩)
    (by kernel_rfl)
end Go.Proofs.YtijhcdmjiclnnaaDoor.LawCodeTakes
