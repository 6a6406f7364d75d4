/- P1.2: rows that are written are taken, one by one and all at once; one more or fewer is none; cut anywhere they are none. Condition: the library's tables are laid (tied to the program's text). -/
import Derived.Test.YtijhcdmjiclnnaaDoorFrameRowsB
import Derived.Test.YtijhcdmjiclnnaaDoorTied
import Derived.Test.YtijhcdmjiclnnaaDoorWakes01
import Derived.Test.YtijhcdmjiclnnaaDoorNets
import Derived.Test.YtijhcdmjiclnnaaDoorTakes
import Derived.Test.YtijhcdmjiclnnaaDoorRowsEq
import Derived.Test.YtijhcdmjiclnnaaDoorWithin
import Derived.Deep.DeepCutAuto
import Derived.Deep.CutRange
import Derived.LoopIn
import Derived.Deep.CutBlock
namespace Go.Proofs.YtijhcdmjiclnnaaDoor.LawCodeRows
open Go Go.RowKit Go.ChangeShapes Go.WideShapes Go.ChangeAt Go.Proofs.YtijhcdmjiclnnaaDoor
set_option linter.unusedVariables false

theorem netsF_drop (R : List (List Int)) (i : Nat) (h : i < R.length) : netsF (R.drop i) = netF R[i] ++ netsF (R.drop (i + 1)) := by
  conv => lhs; rw [List.drop_eq_getElem_cons h]
  simp only [netsF, List.map_cons, List.flatten_cons]
theorem takes_small : ∀ (n : Nat) (b : List Int) (l : List (List Int)), takesF n b = some l → ∀ x ∈ l, x.length ≤ 16384 := by
  intro n
  induction n with
  | zero =>
    intro b l h x hx
    unfold takesF at h
    split at h
    · cases h; cases hx
    · cases h
  | succ n ih =>
    intro b l h x hx
    unfold takesF at h
    obtain ⟨p, hp, h2⟩ := Option.bind_eq_some_iff.1 h
    obtain ⟨l', h3, rfl⟩ := Option.map_eq_some_iff.1 h2
    obtain ⟨y, r⟩ := p
    rcases List.mem_cons.1 hx with rfl | hx
    · exact (take_sound b _ r hp).2
    · exact ih _ _ h3 x hx
theorem takes_more (l : List (List Int)) (hl : ∀ x ∈ l, x.length ≤ 16384) (n : Nat) (hn : n ≠ l.length) : takesF n (netsF l) = none := by
  cases h : takesF n (netsF l) with
  | none => rfl
  | some l' =>
    obtain ⟨g1, g2⟩ := takes_sound _ _ _ h
    have := nets_inj l l' hl (takes_small _ _ _ h) g1
    subst this
    exact absurd g2.symm hn

set_option maxHeartbeats 4000000 in
theorem walk (w : World) (ht : Tab w w.heap.size) (v : Value) (l : List (List Int)) (hv : RowsB w w.heap.size v l) (hb : ∀ x ∈ l, Bytes x) (at_ : Int) (hin : In64 at_) :
    Calls Tryd.prog 12 #[v, .int .i64 at_] w fun e w' => e = .returned (.bool true) ∧ Below w.heap.size w w' := by
  have HT := hide ht
  have HBX := hide hb
  obtain ⟨ha1, ha2⟩ := hin
  obtain ⟨A, c, rfl, h1, h2, h3⟩ := hv.open_
  unfold maxLen at h2
  obtain ⟨n, HN⟩ : ∃ n, Hid (l.length = n) := ⟨_, hide rfl⟩
  rw [HN.out] at h1
  have HVV := hide (fun (w' : World) (hb : Below w.heap.size w w') => (hv.below hb (Nat.le_refl _)).open_)
  rw [HN.out]
  clear hv hb h3 ht
  go_enter Tryd.func12, Tryd.ntmps12
  go_upto_block 0 with fail
  go_cut [5, 6] from 21 to 38 (fun v5 v6 wx => OwnRows wx w.heap.size v5 (cutR 8 100 l) ∧ Below w.heap.size w wx)
  case first =>
    go_wp2_with fail
    go_loopw [5, 6] (fun v5 v6 wr => ∃ i : Nat, i ≤ n ∧ i ≤ 8 ∧ v6 = .int .i64 i ∧ OwnRows wr w.heap.size v5 (cutR i 100 l) ∧ Below w.heap.size w wr) (fun _ v6 _ => 8 - (intOf v6).toNat)
    case atStart => exact ⟨0, by omega, by omega, rfl, OwnRows.nil_ _ _, Below.refl _ _⟩
    case round =>
      obtain ⟨i, hi, hi8, rfl, ho, hbel⟩ := hrel
      have HO := hide ho
      have HB := hide hbel
      have hwz := hbel.size
      clear ho hbel
      by_cases hit : i < n
      · have i0 : (0 : Int) ≤ (i : Int) := by omega
        have i1 : (i : Int) < (n : Int) := by omega
        by_cases hi88 : i < 8
        · have i2 : (i : Int) < 8 := by omega
          obtain ⟨A', c', e', _, _, h3⟩ := HVV.out wr HB.out
          injection e' with e1 e2 e3
          rw [← e1] at h3
          clear e1 e2 e3
          obtain ⟨b, o, rfl, hbb, hc⟩ := h3 (by rw [HN.out]; omega)
          have hil : i < l.length := by rw [HN.out]; exact hit
          obtain ⟨u, hu, hbu⟩ := hc i hil
          have HCS := hide (cutR_succ 100 l i hil)
          have HCUT := hide (cut_bytes u l[i] 100 wr w.heap.size hbu (by omega) (by omega))
          obtain ⟨r, HR⟩ : ∃ r, Hid (l[i].take (100 : Int).toNat = r) := ⟨_, hide rfl⟩
          have HCL := hide (show (cutR i 100 l).length ≤ 1000000 by rw [cutR_len]; omega)
          rw [HR.out] at HCUT
          rw [show l[i].take 100 = r from HR.out] at HCS
          obtain ⟨Q, HQ⟩ : ∃ q, Hid (cutR i 100 l = q) := ⟨_, hide rfl⟩
          rw [HQ.out] at HCS HO HCL
          clear hc hbu h3 HR HQ
          go_wp2_with fail
          refine HCUT.out.mono ?_
          rintro e w' ⟨v36, rfl, hv36, rfl⟩
          have HV36 := hide hv36
          obtain ⟨A1, c1, rfl, _, _, _⟩ := hv36.open_
          clear hv36
          go_wp2_with (at_builtin; go_must (refine wpList_append_row rfl _ _ rfl w.heap.size _ Q rfl HO.out hwz _ r (.inl HV36.out) rfl HCL.out ?_); intro v38 w2 ho38 hb38 hk38; rw [← HCS.out] at ho38; have HO38 := hide ho38; have HB38 := hide (HB.out.trans hb38); clear ho38 hb38 hk38)
          go_roundw
          case measure => simp [intOf]; omega
          case rel => exact ⟨i + 1, by omega, by omega, by go_num, HO38.out, HB38.out⟩
        · have i2 : ¬ (i : Int) < 8 := by omega
          have e8 : i = 8 := by omega
          subst e8
          go_wp2_with fail
          go_meet
          exact ⟨HO.out, HB.out⟩
      · have i1 : ¬ (i : Int) < (n : Int) := by omega
        have HE := hide (show cutR i 100 l = cutR 8 100 l by
          unfold cutR
          rw [List.take_of_length_le (by rw [HN.out]; omega), List.take_of_length_le (by rw [HN.out]; omega)])
        rw [HE.out] at HO
        go_wp2_with fail
        go_meet
        exact ⟨HO.out, HB.out⟩
  case rest =>
    obtain ⟨ho, hbel⟩ := hcut
    have hz0 := hbel.size
    have HO := hide ho
    have HB := hide hbel
    have HRL := hide (cutR_row 8 100 l)
    have HRB := hide (cutR_bytes 8 100 HBX.out)
    have hk8 : (cutR 8 100 l).length ≤ 8 := by rw [cutR_len]; omega
    obtain ⟨R, HR⟩ : ∃ r, Hid (cutR 8 100 l = r) := ⟨_, hide rfl⟩
    rw [HR.out] at HO HRL HRB hk8
    clear ho hbel HR HVV HBX
    obtain ⟨A5, c5, rfl, g1, g2, _⟩ := (HO.out.reads hz0).open_
    have HVR := hide (fun (w' : World) (hb : Below wc.heap.size wc w') => (HO.out.reads hz0).below hb (Nat.le_refl _))
    have HSM := hide (fun x hx => Nat.le_trans (HRL.out x hx) (show 100 ≤ 16384 by omega))
    have HT1 := hide (takes_nets R HSM.out)
    have HT2 := hide (takes_more R HSM.out (R.length + 1) (by omega))
    have HT3 := hide (show takesI ((R.length : Int) - 1) (netsF R) = none by
      unfold takesI
      split
      · rfl
      · exact takes_more R HSM.out _ (by omega))
    have HT4 := hide (fun m hm => takes_cut R HSM.out m hm)
    have HT1 := hide (show takesI (R.length : Int) (netsF R) = some R by unfold takesI; rw [if_neg (by omega), Int.toNat_natCast]; exact HT1.out)
    have HT2 := hide (show takesI ((R.length : Int) + 1) (netsF R) = none by unfold takesI; rw [if_neg (by omega), show ((R.length : Int) + 1).toNat = R.length + 1 by omega]; exact HT2.out)
    have HT4 := hide (show ∀ m, m < (netsF R).length → takesI (R.length : Int) ((netsF R).take m) = none from fun m hm => by unfold takesI; rw [if_neg (by omega), Int.toNat_natCast]; exact HT4.out m hm)
    have HNB := hide (netsF_bytes R HRB.out)
    have HNLn := netsF_len R (fun x hx => Nat.le_trans (HRL.out x hx) (by omega)) R.length (Nat.le_refl _)
    rw [List.take_of_length_le (Nat.le_refl _)] at HNLn
    have hNl : (netsF R).length ≤ 1000000000 := by omega
    clear HNLn
    have HN0 := hide (show netsF (R.drop 0) = netsF R from rfl)
    have HNS := hide (show ∀ i (h : i < R.length), takeF (netsF (R.drop i)) = some (R[i], netsF (R.drop (i + 1))) from fun i h => by
      rw [netsF_drop R i h]
      exact take_net _ _ (HSM.out _ (List.getElem_mem h)))
    have HNE := hide (show netsF (R.drop R.length) = [] by rw [List.drop_length]; rfl)
    obtain ⟨M, HM⟩ : ∃ m, Hid (netsF R = m) := ⟨_, hide rfl⟩
    have C1 := hide (Nets_any (.slice A5 R.length c5) R wc (HO.out.reads hz0) HRB.out (fun x hx => Nat.le_trans (HRL.out x hx) (by omega)) (by omega) ((HT.out.below HB.out (Nat.le_refl _)).more hz0))
    rw [HM.out] at HT1 HT2 HT3 HT4 HNB hNl HN0 C1
    obtain ⟨D, HD⟩ : ∃ d : Nat → List Int, Hid (∀ i, netsF (R.drop i) = d i) := ⟨_, hide fun _ => rfl⟩
    have HND := hide (show ∀ i (h : i < R.length), takeF (D i) = some (R[i], D (i + 1)) from fun i h => by rw [← HD.out i, ← HD.out (i + 1)]; exact HNS.out i h)
    have HN0 := hide (show D 0 = M from (HD.out 0).symm.trans HN0.out)
    have HNE := hide (show D R.length = [] from (HD.out _).symm.trans HNE.out)
    obtain ⟨k, HK⟩ : ∃ k, Hid (R.length = k) := ⟨_, hide rfl⟩
    rw [HK.out] at HT1 HT2 HT3 HT4 HNE hk8 g1 HVR C1 ⊢
    clear HO HNS HD HM HSM HRL hz0
    obtain ⟨q, HQ⟩ : ∃ k, Hid (M.length = k) := ⟨_, hide rfl⟩
    go_wp2_with fail
    refine C1.out.mono ?_
    rintro e w1 ⟨v40, rfl, ho40, hb1⟩
    obtain ⟨A7, c7, rfl, q1, q2, _⟩ := ho40.reads.open_
    have HB1 := hide hb1
    have HV7 := hide (fun (w' : World) (hb : Below w1.heap.size w1 w') => (ho40.reads).below hb (Nat.le_refl _))
    have hz1 := hb1.size
    rw [HQ.out] at HV7 q1 hNl ⊢
    unfold maxLen at g2 q2
    clear ho40 hb1 C1
    have hwz := HB.out.size
    have D1 := hide (fun (k : Int) (hk : -9223372036854775808 ≤ k ∧ k ≤ 1000000) (w' : World) (h : Below w1.heap.size w1 w') => TakeNets_any _ M k w' ((HV7.out w' h).more h.size) HNB.out (by rw [HQ.out]; omega) hk)
    go_wp2_with fail
    refine (D1.out k (by omega) w1 (Below.refl _ _)).mono ?_
    rintro e w2 (⟨v8, r8, hr8, rfl, ho8, hb2⟩ | ⟨hr8, _⟩)
    case inr => rw [HT1.out] at hr8; cases hr8
    rw [HT1.out] at hr8
    injection hr8 with hr8
    subst hr8
    have HV8 := hide (fun (w' : World) (hb : Below w2.heap.size w2 w') => ((ho8.reads hb2.size).below hb (Nat.le_refl _)))
    have HB2 := hide hb2
    have hz2 := hb2.size
    clear ho8 hb2
    go_wp2_with fail
    refine (D1.out (k + 1) (by omega) w2 HB2.out).mono ?_
    rintro e w3 (⟨v9, r9, hr9, _⟩ | ⟨hr9, rfl, hb3⟩)
    case inl => rw [HT2.out] at hr9; cases hr9
    have HB3 := hide hb3
    have hz3 := hb3.size
    clear hb3 hr9
    go_wp2_with fail
    refine (D1.out ((k : Int) - 1) (by omega) w3 (HB2.out.trans (HB3.out.mono hz2))).mono ?_
    rintro e w4 (⟨v9, r9, hr9, _⟩ | ⟨hr9, rfl, hb4⟩)
    case inl => rw [HT3.out] at hr9; cases hr9
    have HB34 := hide (HB3.out.trans (hb4.mono hz3))
    have hz4 := hb4.size
    have HB14 := hide (HB2.out.trans (HB34.out.mono hz2))
    have HBc4 := hide (HB1.out.trans (HB14.out.mono hz1))
    clear hb4 hr9 HB3
    go_wp2_with fail
    refine (rows_bytes _ _ R R w4 ((HV8.out w4 HB34.out).more (by omega)) ((HVR.out w4 HBc4.out).more (by omega))).mono ?_
    rintro e w5 ⟨rfl, hb5⟩
    rw [decide_eq_true rfl]
    have HB15 := hide (HB14.out.trans (hb5.mono (by omega)))
    have HBc5 := hide (HBc4.out.trans (hb5.mono (by omega)))
    have hz5 := hb5.size
    clear hb5 HB34 HBc4 HB14 HB2 HV8
    have HVE := hide (fun (w' : World) (hb : Below w5.heap.size w5 w') => (HVR.out w' (HBc5.out.trans (hb.mono (by omega)))).open_)
    go_wp2_with fail
    go_loopw [14, 81] (fun v14 v81 wr => ∃ i : Nat, i ≤ k ∧ v81 = .int .i64 i ∧ Bs wr wr.heap.size v14 (D i) ∧ Bytes (D i) ∧ (D i).length ≤ 1000000000 ∧ Below w5.heap.size w5 wr) (fun _ v81 _ => k - (intOf v81).toNat)
    case atStart => exact ⟨0, by omega, rfl, by rw [HN0.out]; exact (HV7.out w5 HB15.out).more (by omega), by rw [HN0.out]; exact HNB.out, by rw [HN0.out, HQ.out]; exact hNl, Below.refl _ _⟩
    case round =>
      obtain ⟨i, hi, rfl, hbs, hby, hdl, hbel⟩ := hrel
      have HBS := hide hbs
      have HBY := hide hby
      have HB6 := hide hbel
      have hwz6 := hbel.size
      clear hbs hby hbel
      by_cases hit : i < k
      · have i1 : (i : Int) < (k : Int) := by omega
        have i0 : (0 : Int) ≤ (i : Int) := by omega
        have hil : i < R.length := by rw [HK.out]; exact hit
        obtain ⟨T, HT5⟩ : ∃ t, Hid (takeF (D i) = t) := ⟨_, hide rfl⟩
        have HTT := hide (HND.out i hil)
        obtain ⟨r, HRi⟩ : ∃ r, Hid (R[i] = r) := ⟨_, hide rfl⟩
        rw [HRi.out] at HTT
        have HCALL := hide (TakeNet_any _ (D i) wr HBS.out HBY.out (by omega))
        go_wp2_with fail
        refine HCALL.out.mono ?_
        rintro e w7 (⟨v1, v2, x, r', ht, rfl, ho1, ho2, hb7⟩ | ⟨ht, _, _⟩)
        case inr => rw [HTT.out] at ht; cases ht
        rw [HTT.out] at ht
        injection ht with ht
        injection ht with ht1 ht2
        subst ht1
        have HO1 := hide ho1
        have HO2 := hide (ht2 ▸ ho2)
        have HB7 := hide (HB6.out.trans (hb7.mono hwz6))
        have hz7 := hb7.size
        obtain ⟨A', c', e', _, _, h3⟩ := HVE.out w7 HB7.out
        injection e' with e1 e2 e3
        rw [← e1] at h3
        clear e1 e2 e3
        obtain ⟨b, o, rfl, hbb, hc⟩ := h3 (by rw [HK.out]; omega)
        obtain ⟨u, hu, hbu⟩ := hc i hil
        rw [HRi.out] at hbu
        have HBU := hide (hbu.more (show wc.heap.size ≤ w7.heap.size by omega))
        have HDL := hide (show (D (i + 1)).length ≤ 1000000000 by
          have := (take_len HTT.out).1
          omega)
        clear hbu hc h3 ho1 ho2 hb7 ht2 HCALL HB6 HBS HBY
        go_wp2_with fail
        refine (same_bytes _ _ _ _ w7 w7.heap.size HO1.out.reads HBU.out (Nat.le_refl _)).mono ?_
        rintro e w8 ⟨rfl, hb8⟩
        rw [decide_eq_true rfl]
        have HB8 := hide (HB7.out.trans (hb8.mono (by omega)))
        have HO8 := hide (HO2.out.keptB hb8)
        clear hb8 HB7 HO2
        go_wp2_with fail
        go_roundw
        case measure => simp [intOf]; omega
        case rel => exact ⟨i + 1, by omega, by go_num, HO8.out.reads, HO8.out.bytes, HDL.out, HB8.out⟩
      · have e : i = k := by omega
        subst e
        have i1 : ¬ (i : Int) < (i : Int) := by omega
        rw [HNE.out] at HBS
        obtain ⟨A9, c9, rfl, _, _, _⟩ := HBS.out.open_
        simp only [List.length_nil]
        have HBz := hide (HB.out.trans ((HBc5.out.trans (HB6.out.mono (by omega))).mono (by omega)))
        have HB16 := hide (HB15.out.trans (HB6.out.mono (by omega)))
        by_cases hq : q = 0
        · subst hq
          go_wp2_with fail
          refine (wakes01 wr ((HT.out.below HBz.out (Nat.le_refl _)).more (by omega))).mono ?_
          rintro e w20 ⟨rfl, hb20⟩
          have HB20 := hide (HBz.out.trans (hb20.mono (by omega)))
          clear hb20
          go_wp2_with fail
          go_ret
          exact ⟨rfl, HB20.out⟩
        · have hq1 : ((q : Int) == 0) = false := beq_eq_false_iff_ne.2 (by omega)
          go_wp2_with fail
          refine (within_any at_ q wr ha1 ha2 (by omega)).mono ?_
          rintro e w9 ⟨rfl, rfl⟩
          obtain ⟨m, ek, hk⟩ : ∃ a : Nat, within at_ q = (a : Int) ∧ a < q := by
            unfold within; rw [if_neg (by omega)]
            have h1 := Int.emod_nonneg at_ (show (q : Int) ≠ 0 by omega)
            have h2 := Int.emod_lt_of_pos at_ (show (0 : Int) < q by omega)
            exact ⟨(at_ % q).toNat, by omega, by omega⟩
          rw [ek]
          clear ek
          have HTM := hide (HT4.out m (by rw [HQ.out]; exact hk))
          have HCALL := hide (TakeNets_any _ (M.take m) i wr (((HV7.out wr HB16.out).take m (by rw [HQ.out]; omega)).more (by omega)) (fun x hx => HNB.out x (List.mem_of_mem_take hx)) (by rw [List.length_take]; omega) (by omega))
          go_wp2_with fail
          refine HCALL.out.mono ?_
          rintro e w10 (⟨v9, r9, hr9, _⟩ | ⟨hr9, rfl, hb10⟩)
          case inl => rw [HTM.out] at hr9; cases hr9
          have HB10 := hide (HBz.out.trans (hb10.mono (by omega)))
          have hz10 := hb10.size
          clear hb10 hr9 HCALL
          go_wp2_with fail
          refine (wakes01 w10 ((HT.out.below HB10.out (Nat.le_refl _)).more (by omega))).mono ?_
          rintro e w20 ⟨rfl, hb20⟩
          have HB20 := hide (HB10.out.trans (hb20.mono (by omega)))
          clear hb20
          go_wp2_with fail
          go_ret
          exact ⟨rfl, HB20.out⟩

set_option maxRecDepth 100000 in
theorem lifted (os : Os) (started : os.Started) (H : Type) (enc : TypeId × Value → H) :
    ReturnsInHanded {} Tryd.checked os 12 .any (fun w args => (Rows.codeRowsSpec.pre enc Tryd.prog Tryd.f12 [] false w args ∧ laidMetH Tryd.prog laidD w) ∧ sizedMet enc Tryd.prog Tryd.f12 (OpenSpec.ofChange Rows.codeRowsSpec) false w args)
      (Rows.codeRowsSpec.post enc Tryd.prog Tryd.f12 false true false false) := by
  refine returnsInHanded_of_change_and (C := Tryd.checked) (X := fun w _ => laidMetH Tryd.prog laidD w) (fun _ _ _ hh h => h.of_heap hh) own started (by kernel_rfl) Tryd.func12
    (ChangeSpec.witness_shaped (enc := enc) (C := Tryd.checked) (os := os) (X := fun w _ => laidMetH Tryd.prog laidD w) false (World.doorLaid Tryd.prog doorSteps os) #[.slice none 0 0, .int .i64 0] 8 rfl (World.shaped_of_RefB (by kernel_rfl) (by kernel_rfl)) (by kernel_rfl) (by kernel_rfl) (by kernel_rfl) (door_met os _)) ?_
  intro W base args ds gs before hval0 hW _ _ hL _
  have hT := tab_of hL
  have hval : ∀ (j : Nat) t v, Tryd.f12.params[j]? = some t → args[j]? = some v → Value.okWide Tryd.prog W .any base t v := hval0
  have hW' := hW
  obtain ⟨p, q, hA0, hV, rfl, hfz, hnd⟩ := hW
  have hA : DataW.TrodAll enc Tryd.prog W 0 (fun _ => true) true Tryd.f12.params.toList args.toList ds p := hA0
  rw [Tryd.params12] at hA hval
  obtain ⟨v0, vs0, d0, ds0, p0, q0, hargs, rfl, rfl, h0, r0⟩ := trodAll_cons hA
  obtain ⟨v1, vs1, d1, ds1, p1, q1, rfl, rfl, rfl, h1, r1⟩ := trodAll_cons r0
  obtain ⟨rfl, rfl, rfl⟩ := trodAll_nil r1
  obtain rfl : args = #[v0, v1] := by cases args; simp_all
  obtain ⟨rfl, rfl⟩ := trodVars_none hV
  obtain ⟨s0, len0, cap0, rfl⟩ := okWide_slice Tryd.underlying22 (hval 0 22 v0 rfl rfl)
  have k0 := h0
  have lt0 : ∀ x ∈ p0, x.block < W.heap.size := by obtain ⟨m, hm⟩ := k0; exact DataW.trod_lt m _ _ _ hm
  obtain ⟨z0, w0, b0⟩ := read_brows h0
  obtain ⟨a1, rfl, rfl, rfl, wf1⟩ := open_int Tryd.underlying3 (hval 1 3 v1 rfl rfl) h1
  clear hA0 hval0
  refine (walk W hT _ z0 w0 b0 a1 (in64_wf wf1)).mono fun e W' ⟨he, bel⟩ => ?_
  subst he
  exact ⟨_, rfl, _, _, _, [], _, [], hW', trodAll_mk1 (shut_bool Tryd.underlying4 _), (trodAll_cons_mk (Below.trod laidOut (by kernel_rfl) (of_decide_eq_true (by kernel_rfl)) k0 bel lt0) (trodAll_cons_mk (shut_int Tryd.underlying3 wf1) trodAll_mk0)), rfl, bel.frame _, fun h => by cases h⟩

theorem over : Rows.codeRowsRow.holds Tryd.pinned (OpenSpec.ofChange Rows.codeRowsSpec) :=
  OpenClaim.holds_of_wide 12 Tryd.f12 rfl rfl rfl rfl rfl rfl rfl ⟨rfl, rfl, rfl, rfl, rfl⟩ rfl rfl rfl rfl rfl (by kernel_rfl) Tryd.func12 (by kernel_rfl)
    (of_decide_eq_true (by kernel_rfl)) (by unfold Func.isWrapper; rw [if_neg (of_decide_eq_false (by kernel_rfl))]; exact ⟨rfl, rfl⟩)
    (fun os started H enc _ => lifted os started H enc)

theorem proved : Rows.CodeRowsCardSaid :=
  Claim7.holds_tied_plain_at .later [] Rows.codeRowsCard.laidKinds true Rows.codeRowsCard.stood.harness false
    over (fun _ h => by cases h) (by kernel_rfl) (fun _ h => by cases h) codeRows_row_tie rfl ⟨rfl, rfl⟩ (by kernel_rfl) rfl
    (fun f fn hf hfn => by
      obtain rfl : f = 12 := Option.some.inj ((show Tryd.prog.funcNamed "aumbry/aumbrylaw01.CodeRows" = some 12 by kernel_rfl).symm.trans hf) |>.symm
      obtain rfl : fn = Tryd.f12 := (Option.some.inj (Tryd.func12.symm.trans hfn)).symm
      exact ⟨by kernel_rfl, fun j t ht => by
        have ht' : Tryd.f12.params[j]? = some t := ht
        rw [Tryd.params12] at ht'
        have hm : t ∈ [22, 3] := by simpa using Array.mem_of_getElem? ht'
        have hall : ([22, 3].all fun u => !Tryd.prog.wantsStandIn u) = true := by kernel_rfl
        exact (show Tryd.prog.wantsStandIn t = false by simpa using List.all_eq_true.1 hall t hm)⟩)
    (by kernel_rfl)
end Go.Proofs.YtijhcdmjiclnnaaDoor.LawCodeRows
