/- P1.2, P1.3: unlike rows are written as unlike bytes, and unlike bytes as unlike letters. Condition: the library's tables are laid (tied to the program's text). -/
import Derived.Test.YtijhcdmjiclnnaaDoorFrameRowsB
import Derived.Test.YtijhcdmjiclnnaaDoorFrameBytes
import Derived.Test.YtijhcdmjiclnnaaDoorTied
import Derived.Test.YtijhcdmjiclnnaaDoorWakes01
import Derived.Test.YtijhcdmjiclnnaaDoorNets
import Derived.Test.YtijhcdmjiclnnaaDoorRowsEq
import Derived.Test.YtijhcdmjiclnnaaDoorCopyRowsB
import Derived.Test.YtijhcdmjiclnnaaDoorBy32
import Derived.Deep.DeepCutAuto
import Derived.Deep.CutRange
import Derived.LoopIn
import Derived.Deep.CutBlock
namespace Go.Proofs.YtijhcdmjiclnnaaDoor.LawCodeUnlike
open Go Go.RowKit Go.ChangeShapes Go.WideShapes Go.ChangeAt Go.Proofs.YtijhcdmjiclnnaaDoor
set_option linter.unusedVariables false

set_option maxHeartbeats 4000000 in
theorem walk (w : World) (ht : Tab w w.heap.size) (v : Value) (l : List (List Int)) (hv : RowsB w w.heap.size v l) (hb : ∀ x ∈ l, Bytes x) (v' : Value) (m : List (List Int)) (hv' : RowsB w w.heap.size v' m) (hb' : ∀ x ∈ m, Bytes x) (tw : Bool) :
    Calls Tryd.prog 3 #[v, v', .bool tw] w fun e w' => e = .returned (.bool true) ∧ Below w.heap.size w w' := by
  have HT := hide ht
  have HBX := hide hb
  have HBY := hide hb'
  obtain ⟨A, c, rfl, h1, h2, h3⟩ := hv.open_
  obtain ⟨A', c', rfl, h1', h2', h3'⟩ := hv'.open_
  unfold maxLen at h2 h2'
  obtain ⟨n, HN⟩ : ∃ n, Hid (l.length = n) := ⟨_, hide rfl⟩
  obtain ⟨n', HN'⟩ : ∃ n, Hid (m.length = n) := ⟨_, hide rfl⟩
  rw [HN.out] at h1
  rw [HN'.out] at h1'
  have HVV := hide (fun (w' : World) (hb : Below w.heap.size w w') => (hv.below hb (Nat.le_refl _)).open_)
  have HVV' := hide (fun (w' : World) (hb : Below w.heap.size w w') => (hv'.below hb (Nat.le_refl _)).open_)
  rw [HN.out, HN'.out]
  clear hv hb h3 ht hv' hb' h3'
  go_enter Tryd.func3, Tryd.ntmps3
  go_upto_block 0 with fail
  go_cut [7, 9] from 13 to 30 (fun v7 v9 wx => OwnRows wx w.heap.size v7 (cutR 6 60 l) ∧ Below w.heap.size w wx)
  case first =>
    go_wp2_with fail
    go_loopw [7, 9] (fun v7 v9 wr => ∃ i : Nat, i ≤ n ∧ i ≤ 6 ∧ v9 = .int .i64 i ∧ OwnRows wr w.heap.size v7 (cutR i 60 l) ∧ Below w.heap.size w wr) (fun _ v9 _ => 6 - (intOf v9).toNat)
    case atStart => exact ⟨0, by omega, by omega, rfl, OwnRows.nil_ _ _, Below.refl _ _⟩
    case round =>
      obtain ⟨i, hi, hiK, rfl, ho, hbel⟩ := hrel
      have HO := hide ho
      have HB := hide hbel
      have hwz := hbel.size
      clear ho hbel
      by_cases hit : i < n
      · have i0 : (0 : Int) ≤ (i : Int) := by omega
        have i1 : (i : Int) < (n : Int) := by omega
        by_cases hiKK : i < 6
        · have i2 : (i : Int) < 6 := by omega
          obtain ⟨A', c', e', _, _, h3⟩ := HVV.out wr HB.out
          injection e' with e1 e2 e3
          rw [← e1] at h3
          clear e1 e2 e3
          obtain ⟨b, o, rfl, hbb, hc⟩ := h3 (by rw [HN.out]; omega)
          have hil : i < l.length := by rw [HN.out]; exact hit
          obtain ⟨u, hu, hbu⟩ := hc i hil
          have HCS := hide (cutR_succ 60 l i hil)
          have HCUT := hide (cut_bytes u l[i] 60 wr w.heap.size hbu (by omega) (by omega))
          obtain ⟨r, HR⟩ : ∃ r, Hid (l[i].take (60 : Int).toNat = r) := ⟨_, hide rfl⟩
          have HCL := hide (show (cutR i 60 l).length ≤ 1000000 by rw [cutR_len]; omega)
          rw [HR.out] at HCUT
          rw [show l[i].take 60 = r from HR.out] at HCS
          obtain ⟨Q, HQ⟩ : ∃ q, Hid (cutR i 60 l = q) := ⟨_, hide rfl⟩
          rw [HQ.out] at HCS HO HCL
          clear hc hbu h3 HR HQ
          go_wp2_with fail
          refine HCUT.out.mono ?_
          rintro e w' ⟨v36, rfl, hv36, rfl⟩
          have HV36 := hide (hv36)
          obtain ⟨A1, c1, rfl, _, _, _⟩ := hv36.open_
          clear hv36
          go_wp2_with (at_builtin; go_must (refine wpList_append_row rfl _ _ rfl w.heap.size _ Q rfl HO.out hwz _ r (.inl HV36.out) rfl HCL.out ?_); intro v38 w2 ho38 hb38 hk38; rw [← HCS.out] at ho38; have HO38 := hide ho38; have HB38 := hide (HB.out.trans hb38); clear ho38 hb38 hk38)
          go_roundw
          case measure => simp [intOf]; omega
          case rel => exact ⟨i + 1, by omega, by omega, by go_num, HO38.out, HB38.out⟩
        · have i2 : ¬ (i : Int) < 6 := by omega
          have e8 : i = 6 := by omega
          subst e8
          go_wp2_with fail
          go_meet
          exact ⟨HO.out, HB.out⟩
      · have i1 : ¬ (i : Int) < (n : Int) := by omega
        have HE := hide (show cutR i 60 l = cutR 6 60 l by
          unfold cutR
          rw [List.take_of_length_le (by rw [HN.out]; omega), List.take_of_length_le (by rw [HN.out]; omega)])
        rw [HE.out] at HO
        go_wp2_with fail
        go_meet
        exact ⟨HO.out, HB.out⟩
  case rest =>
    revert wc
    intro wd hcut
    obtain ⟨ho, hbel⟩ := hcut
    have hz0 := hbel.size
    have HRB := hide (cutR_bytes 6 60 HBX.out)
    have HRL := hide (fun x hx => Nat.le_trans (cutR_row 6 60 l x hx) (show 60 ≤ 16384 by omega))
    have hk6 : (cutR 6 60 l).length ≤ 6 := by rw [cutR_len]; omega
    obtain ⟨R, HR⟩ : ∃ r, Hid (cutR 6 60 l = r) := ⟨_, hide rfl⟩
    rw [HR.out] at ho HRB HRL hk6
    have HBW := hide hbel
    have HVR := hide (fun (w' : World) (hb : Below wd.heap.size wd w') => (ho.reads hz0).below hb (Nat.le_refl _))
    obtain ⟨A5, c5, rfl, g1, g2, _⟩ := (ho.reads hz0).open_
    unfold maxLen at g2
    clear ho hbel HR HVV HBX
    go_upto_block 2 with fail
    go_cut [8, 10] from 31 to 48 (fun v8 v10 wx => OwnRows wx wd.heap.size v8 (cutR 6 60 m) ∧ Below wd.heap.size wd wx)
    case first =>
      go_wp2_with fail
      go_loopw [8, 10] (fun v8 v10 wr => ∃ i : Nat, i ≤ n' ∧ i ≤ 6 ∧ v10 = .int .i64 i ∧ OwnRows wr wd.heap.size v8 (cutR i 60 m) ∧ Below wd.heap.size wd wr) (fun _ v10 _ => 6 - (intOf v10).toNat)
      case atStart => exact ⟨0, by omega, by omega, rfl, OwnRows.nil_ _ _, Below.refl _ _⟩
      case round =>
        obtain ⟨i, hi, hiK, rfl, ho, hbel⟩ := hrel
        have HO := hide ho
        have HB := hide hbel
        have hwz := hbel.size
        clear ho hbel
        by_cases hit : i < n'
        · have i0 : (0 : Int) ≤ (i : Int) := by omega
          have i1 : (i : Int) < (n' : Int) := by omega
          by_cases hiKK : i < 6
          · have i2 : (i : Int) < 6 := by omega
            obtain ⟨A', c', e', _, _, h3⟩ := HVV'.out wr (HBW.out.trans (HB.out.mono (by have := HBW.out.size; omega)))
            injection e' with e1 e2 e3
            rw [← e1] at h3
            clear e1 e2 e3
            obtain ⟨b, o, rfl, hbb, hc⟩ := h3 (by rw [HN'.out]; omega)
            have hil : i < m.length := by rw [HN'.out]; exact hit
            obtain ⟨u, hu, hbu⟩ := hc i hil
            have HCS := hide (cutR_succ 60 m i hil)
            have HCUT := hide (cut_bytes u m[i] 60 wr w.heap.size hbu (by omega) (by omega))
            obtain ⟨r, HR⟩ : ∃ r, Hid (m[i].take (60 : Int).toNat = r) := ⟨_, hide rfl⟩
            have HCL := hide (show (cutR i 60 m).length ≤ 1000000 by rw [cutR_len]; omega)
            rw [HR.out] at HCUT
            rw [show m[i].take 60 = r from HR.out] at HCS
            obtain ⟨Q, HQ⟩ : ∃ q, Hid (cutR i 60 m = q) := ⟨_, hide rfl⟩
            rw [HQ.out] at HCS HO HCL
            clear hc hbu h3 HR HQ
            go_wp2_with fail
            refine HCUT.out.mono ?_
            rintro e w' ⟨v36, rfl, hv36, rfl⟩
            have HV36 := hide (hv36.more (by have := HBW.out.size; omega))
            obtain ⟨A1, c1, rfl, _, _, _⟩ := hv36.open_
            clear hv36
            go_wp2_with (at_builtin; go_must (refine wpList_append_row rfl _ _ rfl wd.heap.size _ Q rfl HO.out hwz _ r (.inl HV36.out) rfl HCL.out ?_); intro v38 w2 ho38 hb38 hk38; rw [← HCS.out] at ho38; have HO38 := hide ho38; have HB38 := hide (HB.out.trans hb38); clear ho38 hb38 hk38)
            go_roundw
            case measure => simp [intOf]; omega
            case rel => exact ⟨i + 1, by omega, by omega, by go_num, HO38.out, HB38.out⟩
          · have i2 : ¬ (i : Int) < 6 := by omega
            have e8 : i = 6 := by omega
            subst e8
            go_wp2_with fail
            go_meet
            exact ⟨HO.out, HB.out⟩
        · have i1 : ¬ (i : Int) < (n' : Int) := by omega
          have HE := hide (show cutR i 60 m = cutR 6 60 m by
            unfold cutR
            rw [List.take_of_length_le (by rw [HN'.out]; omega), List.take_of_length_le (by rw [HN'.out]; omega)])
          rw [HE.out] at HO
          go_wp2_with fail
          go_meet
          exact ⟨HO.out, HB.out⟩
    case rest =>
      obtain ⟨ho, hbel⟩ := hcut
      have hz1 := hbel.size
      have HSB := hide (cutR_bytes 6 60 HBY.out)
      have HSL := hide (fun x hx => Nat.le_trans (cutR_row 6 60 m x hx) (show 60 ≤ 16384 by omega))
      have hs6 : (cutR 6 60 m).length ≤ 6 := by rw [cutR_len]; omega
      obtain ⟨S, HS⟩ : ∃ r, Hid (cutR 6 60 m = r) := ⟨_, hide rfl⟩
      rw [HS.out] at ho HSB HSL hs6
      have HBX := hide hbel
      have HVS := hide (fun (w' : World) (hb : Below wc.heap.size wc w') => (ho.reads hz1).below hb (Nat.le_refl _))
      obtain ⟨A8, c8, rfl, k1, k2, _⟩ := (ho.reads hz1).open_
      unfold maxLen at k2
      clear ho hbel HS HVV' HBY
      cases tw
      case true =>
        have HCALL := hide (copyRows_any _ R wc ((HVR.out wc HBX.out).more hz1) HRB.out (fun x hx => Nat.le_trans (HRL.out x hx) (by omega)) (by omega))
        go_wp2_with fail
        refine HCALL.out.mono ?_
        rintro e w1 ⟨v51, rfl, ho51, hb51⟩
        have hz51 := hb51.size
        have HVS' := hide (fun (w' : World) (hb : Below w1.heap.size w1 w') => (ho51.reads hz51).below hb (Nat.le_refl _))
        have HBX' := hide (HBX.out.trans (hb51.mono hz1))
        obtain ⟨A9, c9, rfl, k3, k4, _⟩ := (ho51.reads hz51).open_
        unfold maxLen at k4
        clear HVS HBX k1 k2 HSB HSL hs6
        obtain ⟨S2, hS2⟩ : ∃ s, s = R := ⟨_, rfl⟩
        have HSB2 := hide (show ∀ x ∈ S2, Bytes x by rw [hS2]; exact HRB.out)
        have HSL2 := hide (show ∀ x ∈ S2, x.length ≤ 16384 by rw [hS2]; exact HRL.out)
        have hs6 : S2.length ≤ 6 := by rw [hS2]; exact hk6
        have HVS2 := hide (show ∀ (w' : World) (hb : Below w1.heap.size w1 w'), RowsB w' w1.heap.size _ S2 by rw [hS2]; exact HVS'.out)
        clear ho51 hb51 HCALL HVS' hS2
        have HVS' := HVS2
        have hzw := HBW.out.size
        have hzx := HBX'.out.size
        have HT' := hide (fun (w' : World) (hb : Below w.heap.size w w') => (HT.out.below hb (Nat.le_refl _)).more hb.size)
        have HBw := hide (HBW.out.trans (HBX'.out.mono hzw))
        have C1 := hide (Nets_any _ R w1 ((HVR.out w1 HBX'.out).more (by omega)) HRB.out (fun x hx => Nat.le_trans (HRL.out x hx) (by omega)) (by omega) (HT'.out _ HBw.out))
        have C2 := hide (fun (w' : World) (hb : Below w1.heap.size w1 w') => Nets_any _ S2 w' ((HVS'.out w' hb).more hb.size) HSB2.out (fun x hx => Nat.le_trans (HSL2.out x hx) (by omega)) (by omega) (HT'.out _ (HBw.out.trans (hb.mono (by omega)))))
        have HNB := hide (netsF_bytes R HRB.out)
        have HMB := hide (netsF_bytes S2 HSB2.out)
        have hNl : (netsF R).length ≤ 1000000000 := by
          have := netsF_len R (fun x hx => Nat.le_trans (HRL.out x hx) (by omega)) R.length (Nat.le_refl _)
          rw [List.take_of_length_le (Nat.le_refl _)] at this
          omega
        have hMl : (netsF S2).length ≤ 1000000000 := by
          have := netsF_len S2 (fun x hx => Nat.le_trans (HSL2.out x hx) (by omega)) S2.length (Nat.le_refl _)
          rw [List.take_of_length_le (Nat.le_refl _)] at this
          omega
        have HIN := hide (show decide (netsF R = netsF S2) = decide (R = S2) from decide_eq_decide.2 ⟨fun h => nets_inj R S2 HRL.out HSL2.out h, fun h => by rw [h]⟩)
        obtain ⟨N, HN1⟩ : ∃ n, Hid (netsF R = n) := ⟨_, hide rfl⟩
        obtain ⟨M, HM1⟩ : ∃ n, Hid (netsF S2 = n) := ⟨_, hide rfl⟩
        rw [HN1.out] at C1 HNB hNl HIN
        rw [HM1.out] at HMB hMl HIN
        have C2 := hide (fun (w' : World) (hb : Below w1.heap.size w1 w') => HM1.out ▸ C2.out w' hb)
        obtain ⟨E, HE⟩ : ∃ b, Hid (decide (N = M) = b) := ⟨_, hide rfl⟩
        rw [HE.out] at HIN
        have HB32 := hide (show ((strOfNums (b32F N)).toList == (strOfNums (b32F M)).toList) = E by
          rw [← HE.out]
          by_cases h : N = M
          · subst h; simp
          · rw [decide_eq_false h]
            exact str_ne fun h' => h (b32F_inj HNB.out HMB.out ((strOf_inj (b32F_bytes N) (b32F_bytes M)).1 h')))
        obtain ⟨t1, HT1⟩ : ∃ t, Hid (strOfNums (b32F N) = t) := ⟨_, hide rfl⟩
        obtain ⟨t2, HT2⟩ : ∃ t, Hid (strOfNums (b32F M) = t) := ⟨_, hide rfl⟩
        have D1 := hide (fun v w h => Base32_any v N w h HNB.out (by omega))
        have D2 := hide (fun v w h => Base32_any v M w h HMB.out (by omega))
        simp only [HT1.out] at D1
        simp only [HT2.out] at D2
        have htt := HB32.out
        rw [HT1.out, HT2.out] at htt
        have hee : (E == E) = true := by simp
        clear HB32 HT1 HT2 HN1 HM1 HRB HRL
        go_wp2_with fail
        refine C1.out.mono ?_
        rintro e w11 ⟨v53, rfl, ho53, hb11⟩
        have HV53 := hide (fun (w' : World) (hb : Below w11.heap.size w11 w') => (ho53.reads).below hb (Nat.le_refl _))
        obtain ⟨A53, c53, rfl⟩ := ho53.shape
        have HB11 := hide hb11
        have hz11 := hb11.size
        clear ho53 hb11 C1
        go_wp2_with fail
        refine (C2.out w11 HB11.out).mono ?_
        rintro e w12 ⟨v55, rfl, ho55, hb12⟩
        have HV55 := hide (fun (w' : World) (hb : Below w12.heap.size w12 w') => (ho55.reads).below hb (Nat.le_refl _))
        obtain ⟨A55, c55, rfl⟩ := ho55.shape
        have HB12 := hide (hb12)
        have HBX2 := hide (HB11.out.trans (HB12.out.mono (by omega)))
        have hz12 := hb12.size
        clear ho55 hb12 C2
        go_wp2_with fail
        refine (same_bytes _ _ N M w12 w12.heap.size ((HV53.out w12 HB12.out).more (by omega)) (HV55.out w12 (Below.refl _ _)) (Nat.le_refl _)).mono ?_
        rintro e w13 ⟨rfl, hb13⟩
        rw [HE.out]
        have HB13 := hide hb13
        have hz13 := hb13.size
        have HBX3 := hide (HBX2.out.trans (HB13.out.mono (by omega)))
        clear hb13
        go_wp2_with fail
        refine (rows_bytes _ _ R S2 w13 ((HVR.out w13 (HBX'.out.trans (HBX3.out.mono (by omega)))).more (by omega)) ((HVS'.out w13 HBX3.out).more (by omega))).mono ?_
        rintro e w14 ⟨rfl, hb14⟩
        rw [← HIN.out]
        have HB14 := hide (HB13.out.trans (hb14.mono (by omega)))
        have HBX4 := hide (HBX3.out.trans (hb14.mono (by omega)))
        have hz14 := hb14.size
        clear hb14
        go_wp2_with fail
        refine (D1.out _ w14 ((HV53.out w14 (HB12.out.trans (HB14.out.mono (by omega)))).more (by omega))).mono ?_
        rintro e w15 ⟨rfl, hb15⟩
        have HB15 := hide (HB14.out.trans (hb15.mono (by omega)))
        have HBX5 := hide (HBX4.out.trans (hb15.mono (by omega)))
        have hz15 := hb15.size
        clear hb15
        go_wp2_with fail
        refine (D2.out _ w15 ((HV55.out w15 HB15.out).more (by omega))).mono ?_
        rintro e w16 ⟨rfl, hb16⟩
        have HB16 := hide (HB15.out.trans (hb16.mono (by omega)))
        have HBX6 := hide (HBX5.out.trans (hb16.mono (by omega)))
        have hz16 := hb16.size
        clear hb16
        go_wp2_with fail
        refine (same_bytes _ _ N M w16 w16.heap.size ((HV53.out w16 (HB12.out.trans (HB16.out.mono (by omega)))).more (by omega)) ((HV55.out w16 HB16.out).more (by omega)) (Nat.le_refl _)).mono ?_
        rintro e w17 ⟨rfl, hb17⟩
        rw [HE.out]
        have HBz := hide (HBw.out.trans ((HBX6.out.trans (hb17.mono (by omega))).mono (by omega)))
        have hz17 := hb17.size
        clear hb17
        go_wp2_with fail
        refine (wakes01 w17 (HT'.out _ HBz.out)).mono ?_
        rintro e w20 ⟨rfl, hb20⟩
        have HB20 := hide (HBz.out.trans (hb20.mono (by omega)))
        clear hb20
        go_wp2_with fail
        go_ret
        exact ⟨rfl, HB20.out⟩
      case false =>
        have HVS' := HVS
        have HBX' := HBX
        have hzw := HBW.out.size
        have hzx := HBX'.out.size
        have HT' := hide (fun (w' : World) (hb : Below w.heap.size w w') => (HT.out.below hb (Nat.le_refl _)).more hb.size)
        have HBw := hide (HBW.out.trans (HBX'.out.mono hzw))
        have C1 := hide (Nets_any _ R wc ((HVR.out wc HBX'.out).more (by omega)) HRB.out (fun x hx => Nat.le_trans (HRL.out x hx) (by omega)) (by omega) (HT'.out _ HBw.out))
        have C2 := hide (fun (w' : World) (hb : Below wc.heap.size wc w') => Nets_any _ S w' ((HVS'.out w' hb).more hb.size) HSB.out (fun x hx => Nat.le_trans (HSL.out x hx) (by omega)) (by omega) (HT'.out _ (HBw.out.trans (hb.mono (by omega)))))
        have HNB := hide (netsF_bytes R HRB.out)
        have HMB := hide (netsF_bytes S HSB.out)
        have hNl : (netsF R).length ≤ 1000000000 := by
          have := netsF_len R (fun x hx => Nat.le_trans (HRL.out x hx) (by omega)) R.length (Nat.le_refl _)
          rw [List.take_of_length_le (Nat.le_refl _)] at this
          omega
        have hMl : (netsF S).length ≤ 1000000000 := by
          have := netsF_len S (fun x hx => Nat.le_trans (HSL.out x hx) (by omega)) S.length (Nat.le_refl _)
          rw [List.take_of_length_le (Nat.le_refl _)] at this
          omega
        have HIN := hide (show decide (netsF R = netsF S) = decide (R = S) from decide_eq_decide.2 ⟨fun h => nets_inj R S HRL.out HSL.out h, fun h => by rw [h]⟩)
        obtain ⟨N, HN1⟩ : ∃ n, Hid (netsF R = n) := ⟨_, hide rfl⟩
        obtain ⟨M, HM1⟩ : ∃ n, Hid (netsF S = n) := ⟨_, hide rfl⟩
        rw [HN1.out] at C1 HNB hNl HIN
        rw [HM1.out] at HMB hMl HIN
        have C2 := hide (fun (w' : World) (hb : Below wc.heap.size wc w') => HM1.out ▸ C2.out w' hb)
        obtain ⟨E, HE⟩ : ∃ b, Hid (decide (N = M) = b) := ⟨_, hide rfl⟩
        rw [HE.out] at HIN
        have HB32 := hide (show ((strOfNums (b32F N)).toList == (strOfNums (b32F M)).toList) = E by
          rw [← HE.out]
          by_cases h : N = M
          · subst h; simp
          · rw [decide_eq_false h]
            exact str_ne fun h' => h (b32F_inj HNB.out HMB.out ((strOf_inj (b32F_bytes N) (b32F_bytes M)).1 h')))
        obtain ⟨t1, HT1⟩ : ∃ t, Hid (strOfNums (b32F N) = t) := ⟨_, hide rfl⟩
        obtain ⟨t2, HT2⟩ : ∃ t, Hid (strOfNums (b32F M) = t) := ⟨_, hide rfl⟩
        have D1 := hide (fun v w h => Base32_any v N w h HNB.out (by omega))
        have D2 := hide (fun v w h => Base32_any v M w h HMB.out (by omega))
        simp only [HT1.out] at D1
        simp only [HT2.out] at D2
        have htt := HB32.out
        rw [HT1.out, HT2.out] at htt
        have hee : (E == E) = true := by simp
        clear HB32 HT1 HT2 HN1 HM1 HRB HRL
        go_wp2_with fail
        refine C1.out.mono ?_
        rintro e w11 ⟨v53, rfl, ho53, hb11⟩
        have HV53 := hide (fun (w' : World) (hb : Below w11.heap.size w11 w') => (ho53.reads).below hb (Nat.le_refl _))
        obtain ⟨A53, c53, rfl⟩ := ho53.shape
        have HB11 := hide hb11
        have hz11 := hb11.size
        clear ho53 hb11 C1
        go_wp2_with fail
        refine (C2.out w11 HB11.out).mono ?_
        rintro e w12 ⟨v55, rfl, ho55, hb12⟩
        have HV55 := hide (fun (w' : World) (hb : Below w12.heap.size w12 w') => (ho55.reads).below hb (Nat.le_refl _))
        obtain ⟨A55, c55, rfl⟩ := ho55.shape
        have HB12 := hide (hb12)
        have HBX2 := hide (HB11.out.trans (HB12.out.mono (by omega)))
        have hz12 := hb12.size
        clear ho55 hb12 C2
        go_wp2_with fail
        refine (same_bytes _ _ N M w12 w12.heap.size ((HV53.out w12 HB12.out).more (by omega)) (HV55.out w12 (Below.refl _ _)) (Nat.le_refl _)).mono ?_
        rintro e w13 ⟨rfl, hb13⟩
        rw [HE.out]
        have HB13 := hide hb13
        have hz13 := hb13.size
        have HBX3 := hide (HBX2.out.trans (HB13.out.mono (by omega)))
        clear hb13
        go_wp2_with fail
        refine (rows_bytes _ _ R S w13 ((HVR.out w13 (HBX'.out.trans (HBX3.out.mono (by omega)))).more (by omega)) ((HVS'.out w13 HBX3.out).more (by omega))).mono ?_
        rintro e w14 ⟨rfl, hb14⟩
        rw [← HIN.out]
        have HB14 := hide (HB13.out.trans (hb14.mono (by omega)))
        have HBX4 := hide (HBX3.out.trans (hb14.mono (by omega)))
        have hz14 := hb14.size
        clear hb14
        go_wp2_with fail
        refine (D1.out _ w14 ((HV53.out w14 (HB12.out.trans (HB14.out.mono (by omega)))).more (by omega))).mono ?_
        rintro e w15 ⟨rfl, hb15⟩
        have HB15 := hide (HB14.out.trans (hb15.mono (by omega)))
        have HBX5 := hide (HBX4.out.trans (hb15.mono (by omega)))
        have hz15 := hb15.size
        clear hb15
        go_wp2_with fail
        refine (D2.out _ w15 ((HV55.out w15 HB15.out).more (by omega))).mono ?_
        rintro e w16 ⟨rfl, hb16⟩
        have HB16 := hide (HB15.out.trans (hb16.mono (by omega)))
        have HBX6 := hide (HBX5.out.trans (hb16.mono (by omega)))
        have hz16 := hb16.size
        clear hb16
        go_wp2_with fail
        refine (same_bytes _ _ N M w16 w16.heap.size ((HV53.out w16 (HB12.out.trans (HB16.out.mono (by omega)))).more (by omega)) ((HV55.out w16 HB16.out).more (by omega)) (Nat.le_refl _)).mono ?_
        rintro e w17 ⟨rfl, hb17⟩
        rw [HE.out]
        have HBz := hide (HBw.out.trans ((HBX6.out.trans (hb17.mono (by omega))).mono (by omega)))
        have hz17 := hb17.size
        clear hb17
        go_wp2_with fail
        refine (wakes01 w17 (HT'.out _ HBz.out)).mono ?_
        rintro e w20 ⟨rfl, hb20⟩
        have HB20 := hide (HBz.out.trans (hb20.mono (by omega)))
        clear hb20
        go_wp2_with fail
        go_ret
        exact ⟨rfl, HB20.out⟩

set_option maxRecDepth 100000 in
theorem lifted (os : Os) (started : os.Started) (H : Type) (enc : TypeId × Value → H) :
    ReturnsInHanded {} Tryd.checked os 3 .any (fun w args => (Rows.codeUnlikeSpec.pre enc Tryd.prog Tryd.f3 [] false w args ∧ laidMetH Tryd.prog laidD w) ∧ sizedMet enc Tryd.prog Tryd.f3 (OpenSpec.ofChange Rows.codeUnlikeSpec) false w args)
      (Rows.codeUnlikeSpec.post enc Tryd.prog Tryd.f3 false true false false) := by
  refine returnsInHanded_of_change_and (C := Tryd.checked) (X := fun w _ => laidMetH Tryd.prog laidD w) (fun _ _ _ hh h => h.of_heap hh) own started (by kernel_rfl) Tryd.func3
    (ChangeSpec.witness_shaped (enc := enc) (C := Tryd.checked) (os := os) (X := fun w _ => laidMetH Tryd.prog laidD w) false (World.doorLaid Tryd.prog doorSteps os) #[.slice none 0 0, .slice none 0 0, .bool false] 8 rfl (World.shaped_of_RefB (by kernel_rfl) (by kernel_rfl)) (by kernel_rfl) (by kernel_rfl) (by kernel_rfl) (door_met os _)) ?_
  intro W base args ds gs before hval0 hW _ _ hL _
  have hT := tab_of hL
  have hval : ∀ (j : Nat) t v, Tryd.f3.params[j]? = some t → args[j]? = some v → Value.okWide Tryd.prog W .any base t v := hval0
  have hW' := hW
  obtain ⟨p, q, hA0, hV, rfl, hfz, hnd⟩ := hW
  have hA : DataW.TrodAll enc Tryd.prog W 0 (fun _ => true) true Tryd.f3.params.toList args.toList ds p := hA0
  rw [Tryd.params3] at hA hval
  obtain ⟨v0, vs0, d0, ds0, p0, q0, hargs, rfl, rfl, h0, r0⟩ := trodAll_cons hA
  obtain ⟨v1, vs1, d1, ds1, p1, q1, rfl, rfl, rfl, h1, r1⟩ := trodAll_cons r0
  obtain ⟨v2, vs2, d2, ds2, p2, q2, rfl, rfl, rfl, h2, r2⟩ := trodAll_cons r1
  obtain ⟨rfl, rfl, rfl⟩ := trodAll_nil r2
  obtain rfl : args = #[v0, v1, v2] := by cases args; simp_all
  obtain ⟨rfl, rfl⟩ := trodVars_none hV
  obtain ⟨s0, len0, cap0, rfl⟩ := okWide_slice Tryd.underlying22 (hval 0 22 v0 rfl rfl)
  have k0 := h0
  have lt0 : ∀ x ∈ p0, x.block < W.heap.size := by obtain ⟨m, hm⟩ := k0; exact DataW.trod_lt m _ _ _ hm
  obtain ⟨z0, w0, b0⟩ := read_brows h0
  obtain ⟨s1, len1, cap1, rfl⟩ := okWide_slice Tryd.underlying22 (hval 1 22 v1 rfl rfl)
  have k1 := h1
  have lt1 : ∀ x ∈ p1, x.block < W.heap.size := by obtain ⟨m, hm⟩ := k1; exact DataW.trod_lt m _ _ _ hm
  obtain ⟨z1, w1, b1⟩ := read_brows h1
  obtain ⟨a2, rfl, rfl, rfl⟩ := open_bool Tryd.underlying4 (hval 2 4 v2 rfl rfl) h2
  clear hA0 hval0
  refine (walk W hT _ z0 w0 b0 _ z1 w1 b1 a2).mono fun e W' ⟨he, bel⟩ => ?_
  subst he
  exact ⟨_, rfl, _, _, _, [], _, [], hW', trodAll_mk1 (shut_bool Tryd.underlying4 _), (trodAll_cons_mk (Below.trod laidOut (by kernel_rfl) (of_decide_eq_true (by kernel_rfl)) k0 bel lt0) (trodAll_cons_mk (Below.trod laidOut (by kernel_rfl) (of_decide_eq_true (by kernel_rfl)) k1 bel lt1) (trodAll_cons_mk (shut_bool Tryd.underlying4 _) trodAll_mk0))), rfl, bel.frame _, fun h => by cases h⟩

theorem over : Rows.codeUnlikeRow.holds Tryd.pinned (OpenSpec.ofChange Rows.codeUnlikeSpec) :=
  OpenClaim.holds_of_wide 3 Tryd.f3 rfl rfl rfl rfl rfl rfl rfl ⟨rfl, rfl, rfl, rfl, rfl⟩ rfl rfl rfl rfl rfl (by kernel_rfl) Tryd.func3 (by kernel_rfl)
    (of_decide_eq_true (by kernel_rfl)) (by unfold Func.isWrapper; rw [if_neg (of_decide_eq_false (by kernel_rfl))]; exact ⟨rfl, rfl⟩)
    (fun os started H enc _ => lifted os started H enc)

theorem proved : Rows.CodeUnlikeCardSaid :=
  Claim7.holds_tied_plain_at .later [] Rows.codeUnlikeCard.laidKinds true Rows.codeUnlikeCard.stood.harness false
    over (fun _ h => by cases h) (by kernel_rfl) (fun _ h => by cases h) codeUnlike_row_tie rfl ⟨rfl, rfl⟩ (by kernel_rfl) rfl
    (fun f fn hf hfn => by
      obtain rfl : f = 3 := Option.some.inj ((show Tryd.prog.funcNamed "aumbry/aumbrylaw01.CodeUnlike" = some 3 by kernel_rfl).symm.trans hf) |>.symm
      obtain rfl : fn = Tryd.f3 := (Option.some.inj (Tryd.func3.symm.trans hfn)).symm
      exact ⟨by kernel_rfl, fun j t ht => by
        have ht' : Tryd.f3.params[j]? = some t := ht
        rw [Tryd.params3] at ht'
        have hm : t ∈ [22, 22, 4] := by simpa using Array.mem_of_getElem? ht'
        have hall : ([22, 22, 4].all fun u => !Tryd.prog.wantsStandIn u) = true := by kernel_rfl
        exact (show Tryd.prog.wantsStandIn t = false by simpa using List.all_eq_true.1 hall t hm)⟩)
    (by kernel_rfl)
end Go.Proofs.YtijhcdmjiclnnaaDoor.LawCodeUnlike
