/- caps.Parse: the capability of a text, or that there is none. Conditions: at most a thousand letters; strconv's table is in place. -/
import Derived.Test.YthdjgebbjogmiaaDoorJoin11
import Derived.Test.YthdjgebbjogmiaaDoorJoin24
import Derived.Deep.DeepCutAuto
import Derived.Deep.CutBlock
set_option linter.unusedVariables false
set_option linter.unusedSimpArgs false
namespace Go.Proofs.YthdjgebbjogmiaaDoor
open Go Go.RowKit

set_option maxRecDepth 100000
set_option maxHeartbeats 16000000 in
theorem Parse_any (s : ByteArray) (w : World) (ht : Tab w w.heap.size) (hn : s.size ≤ 16000) :
 Calls Tryd.prog 71 #[.string s] w (ParsePost w (strB s)) := by
 have HT := hide ht
 have HSP := hide (fun w => split_any s w (by omega))
 have HSB := hide (strB_bytes s)
 have HSS := hide (strOf_strB s)
 have HPL := hide (fun k => show ((splitF (strB s)).getD k []).length ≤ 16000 by have := part_len (strB s) k; rw [strB_len] at this; omega)
 have HPB := hide (fun k => part_bytes HSB.out k)
 have HLN := hide (show 0 < (splitF (strB s)).length ∧ (splitF (strB s)).length ≤ 1000000 by have := splitF_count (strB s); rw [strB_len] at this; omega)
 obtain ⟨xs, HXS⟩ : ∃ x, Hid (strB s = x) := ⟨_, hide rfl⟩
 rw [HXS.out] at HSP HSB HSS HPL HPB HLN
 rw [HXS.out]
 obtain ⟨L, HL⟩ : ∃ L, Hid (splitF xs = L) := ⟨_, hide rfl⟩
 rw [HL.out] at HSP HPL HPB HLN
 have hL0 := HLN.out.1
 have hLM := HLN.out.2
 clear ht HXS
 go_enter Tryd.func71, Tryd.ntmps71
 go_wp2_with (first
  | (refine wpList_cap_zero rfl rfl ?_; intro w1 hb1 hw1 hs1; have HR := hide hb1; have HW := hide hw1; clear hb1 hw1))
 refine (HSP.out _).mono ?_
 rintro e w2 ⟨v, rfl, hrow, hb2⟩
 have hs2 := hb2.size
 have HP := hide (show Parts w2 w2.heap.size v L from StrRow.reads hrow)
 obtain ⟨b, o, cp, rfl, hcp, hbb⟩ := HP.out.open_ hL0
 replace HR := hide (HR.out.below hb2 HR.out.lt)
 replace HW := hide (HW.out.trans (hb2.mono (by omega)))
 clear hrow hb2
 have d1 : decide ((16384 : Int) < (s.size : Int)) = false := by simp; omega
 by_cases h3 : L.length < 3
 · have d2 : decide ((L.length : Int) < 3) = true := by simp; omega
   have HN := hide (parse_none (cand_short HL.out h3))
   go_wp2_with (first
    | go_skip
    | (refine wpList_none_cap rfl rfl ?_)
    | (refine wpList_cap_putAll _ _ rfl rfl rfl HR.out CapD.none_ (.slice none 0 0) rfl rfl rfl rfl ?_; intro wp hbp hgp hsp; replace HR := hide hbp; replace HW := hide (HW.out.grown hgp (by omega) (by intro k hk; simp at hk; omega)); clear hbp hgp))
   refine bodyPost_ret (results_cap_err rfl _ _ w.heap.size _ _ rfl HR.out _ rfl) rfl ?_
   exact .inr ⟨HN.out, rfl, HW.out⟩
 · have d2 : decide ((L.length : Int) < 3) = false := by simp; omega
   obtain ⟨gc, hgc⟩ : ∃ g, w2.heap.size = g := ⟨_, rfl⟩
   rw [hgc] at HP hbb hs2
   have HWD := hide words_any
   obtain ⟨WV, HWV⟩ : ∃ x, Hid (Value.agg wordsV = x) := ⟨_, hide rfl⟩
   have HIX := hide (fun (w' : World) (k : Nat) (h : k < 10) => index_words w' k h)
   rw [HWV.out] at HWD HIX
   go_wp2_with (first
    | go_skip
    | (refine wpList_cap_zero rfl rfl ?_; intro w3 hb3 hw3 hs3; rw [hgc] at hb3 hw3 hs3; have HB := hide hb3; have HV := hide hw3; clear hb3 hw3))
   refine (HWD.out _).mono ?_
   rintro e w4 ⟨rfl, hb4⟩
   have hs4 := hb4.size
   replace HB := hide (HB.out.below hb4 HB.out.lt)
   replace HV := hide (HV.out.trans (hb4.mono (by omega)))
   clear hb4
   go_wp2_with fail
   go_loopw [26] (fun v26 wr => ∃ i : Nat, i ≤ 10 ∧ v26 = .int .i64 i ∧ CapB wr gc { CapD.none_ with kind := kindN (L.getD 1 []) i } (.slice none 0 0) ∧ Below gc w2 wr) (fun v26 _ => 10 - (intOf v26).toNat)
   case atStart => exact ⟨0, by omega, rfl, HB.out, HV.out⟩
   case round =>
    obtain ⟨i, hi, rfl, hcb, hbel⟩ := hrel
    replace HB := hide hcb
    replace HV := hide hbel
    clear hcb hbel
    obtain ⟨kd, HKD⟩ : ∃ k, Hid (kindN (L.getD 1 []) i = k) := ⟨_, hide rfl⟩
    rw [HKD.out] at HB
    have hz := HB.out.lt
    by_cases hi10 : i < 10
    · have hix := fun w' => HIX.out w' i hi10
      have hc1 := Parts.cell (HP.out.below HV.out) 1 (by omega)
      have HQ := hide (wordS_eq (HPB.out 1) hi10)
      have HK1 := hide (show kindN (L.getD 1 []) (i + 1) = if 0 < i ∧ wordL i = L.getD 1 [] then (i : Int) else kd by rw [kindN, HKD.out])
      obtain ⟨WS, HWS⟩ : ∃ x, Hid (wordS i = x) := ⟨_, hide rfl⟩
      obtain ⟨PS, HPS⟩ : ∃ x, Hid (strOfNums (L.getD 1 []) = x) := ⟨_, hide rfl⟩
      have HQ2 : Hid (WS = PS ↔ wordL i = L.getD 1 []) := by rw [← HWS.out, ← HPS.out]; exact HQ.out
      rw [HWS.out] at hix
      rw [HPS.out] at hc1
      have i1 : (i : Int) < 10 := by omega
      have i0 : (0 : Int) ≤ (i : Int) := by omega
      have l1 : (1 : Int) < (L.length : Int) := by omega
      clear HQ
      by_cases hz0 : i = 0
      · have HK2 := hide (show kindN (L.getD 1 []) (i + 1) = kd by rw [HK1.out, if_neg (by omega)])
        have e0 : decide ((0 : Int) < (i : Int)) = false := by simp; omega
        have e1 : ¬ (0 : Int) < (i : Int) := by omega
        clear hz0
        go_wp2_with go_skip
        go_roundw
        case measure => simp [intOf]; omega
        case rel => exact ⟨i + 1, by omega, by go_num, by rw [HK2.out]; exact HB.out, HV.out⟩
      · have e0 : decide ((0 : Int) < (i : Int)) = true := by simp; omega
        by_cases hw : WS = PS
        · have HK2 := hide (show kindN (L.getD 1 []) (i + 1) = i by rw [HK1.out, if_pos ⟨by omega, HQ2.out.1 hw⟩])
          have hbq : (WS.toList == PS.toList) = true := by rw [hw]; exact beq_self_eq_true _
          go_wp2_with (first
           | go_skip
           | (refine wpList_cap_put _ _ rfl 0 rfl rfl HB.out i rfl _ rfl ?_; intro wp hbp hgp hsp; replace HB := hide hbp; replace HV := hide (HV.out.grown hgp (by omega) (by intro k hk; simp at hk; omega)); clear hbp hgp))
          go_roundw
          case measure => simp [intOf]; omega
          case rel => exact ⟨i + 1, by omega, by go_num, by rw [HK2.out]; exact HB.out, HV.out⟩
        · have HK2 := hide (show kindN (L.getD 1 []) (i + 1) = kd by rw [HK1.out, if_neg (fun h => hw (HQ2.out.2 h.2))])
          have hbq : (WS.toList == PS.toList) = false := str_ne hw
          go_wp2_with go_skip
          go_roundw
          case measure => simp [intOf]; omega
          case rel => exact ⟨i + 1, by omega, by go_num, by rw [HK2.out]; exact HB.out, HV.out⟩
    · have e10 : i = 10 := by omega
      subst e10
      have HK := hide (show kindF (L.getD 1 []) = kd by rw [← kindN_all]; exact HKD.out)
      have hc2 := Parts.cell (HP.out.below HV.out) 2 (by omega)
      have HBY := hide (fun w => Bytes32_any (strOfNums (L.getD 2 [])) w (by have := HPL.out 2; rw [← strB_len, strB_of (HPB.out 2)]; omega))
      rw [strB_of (HPB.out 2)] at HBY
      obtain ⟨P2, HP2⟩ : ∃ x, Hid (strOfNums (L.getD 2 []) = x) := ⟨_, hide rfl⟩
      rw [HP2.out] at hc2 HBY
      have l2 : (2 : Int) < (L.length : Int) := by omega
      go_wp2_with fail
      refine (HBY.out _).mono ?_
      rintro e w5 (⟨va, a, hab, rfl, hra, hb5⟩ | ⟨hab, rfl, hb5⟩)
      · have hs5 := hb5.size
        replace HB := hide (HB.out.below hb5 HB.out.lt)
        replace HV := hide (HV.out.trans (hb5.mono (by omega)))
        have HRA := hide (hra.more (show gc + 1 ≤ _ by omega))
        obtain ⟨Aa, ca, rfl⟩ := hra.shape
        have HAL := hide (show a.length ≤ 16000 from Nat.le_trans (bytes32_len hab) (HPL.out 2))
        have HAB := hide hab
        clear hra hb5 hab HBY
        go_upto_block 2 with fail
        go_cut [10, 11] from 49 to 108 (fun v10 v11 wx => ∃ (c : CapD) (l : Value), candP xs = some c ∧ CapB wx gc c l ∧ RowB wx (gc + 1) l c.lit ∧ c.lit.length ≤ 16000 ∧ Below gc w2 wx)
        case first =>
         have hz := HB.out.lt
         by_cases hk3 : kd = 3
         · have HC := hide (cand_lit HL.out (by omega) HAB.out (by rw [HK.out]; exact hk3))
           subst hk3
           go_wp2_with (first
            | (refine wpList_cap_int _ rfl 0 rfl rfl HB.out _ rfl ?_)
            | (refine wpList_cap_putLit _ _ rfl rfl rfl HB.out _ rfl rfl a ?_; intro wp hbp hgp hsp; replace HB := hide hbp; replace HV := hide (HV.out.grown hgp (by omega) (by intro k hk; simp at hk; omega)); replace HRA := hide (HRA.out.off hgp (by omega)); clear hbp hgp))
           go_meet
           exact ⟨_, _, HC.out, HB.out, HRA.out, HAL.out, HV.out⟩
         · have HNK := hide (show ¬ kindF (L.getD 1 []) = 3 by rw [HK.out]; exact hk3)
           have e3 : (kd == 3) = false := by rw [beq_eq_false_iff_ne]; exact hk3
           by_cases h4 : 3 < L.length
           · have g4 : (3 : Int) < (L.length : Int) := by omega
             have hc3 := Parts.cell (HP.out.below HV.out) 3 (by omega)
             have HBY := hide (fun w => Bytes32_any (strOfNums (L.getD 3 [])) w (by have := HPL.out 3; rw [← strB_len, strB_of (HPB.out 3)]; omega))
             rw [strB_of (HPB.out 3)] at HBY
             obtain ⟨P3, HP3⟩ : ∃ x, Hid (strOfNums (L.getD 3 []) = x) := ⟨_, hide rfl⟩
             rw [HP3.out] at hc3 HBY
             go_wp2_with (first
              | (refine wpList_cap_int _ rfl 0 rfl rfl HB.out _ rfl ?_))
             refine (HBY.out _).mono ?_
             rintro e w6 (⟨vb, bs, hbs, rfl, hrb, hb6⟩ | ⟨hbs, rfl, hb6⟩)
             · have hs6 := hb6.size
               replace HB := hide (HB.out.below hb6 HB.out.lt)
               replace HV := hide (HV.out.trans (hb6.mono (by omega)))
               replace HRA := hide (HRA.out.keptB hb6)
               have HRB := hide (hrb.more (show gc + 1 ≤ _ by omega))
               obtain ⟨Ab, cb, rfl⟩ := hrb.shape
               have HBB := hide hbs
               clear hrb hb6 hbs HBY hc3
               by_cases hlen : a.length = 16 ∧ bs.length = 32
               · obtain ⟨hl16, hl32⟩ := hlen
                 have e16 : ((a.length : Int) != 16) = false := by simp; omega
                 have e32 : ((bs.length : Int) != 32) = false := by simp; omega
                 obtain ⟨ba, oa, rfl⟩ := HRA.out.ptr (by omega)
                 obtain ⟨bb, ob, rfl⟩ := HRB.out.ptr (by omega)
                 have HZZ := hide (show ∀ w' : World, Below gc w2 w' → gc ≤ w'.heap.size from fun w' h => by have := h.size; omega)
                 have H16 := hide hl16
                 have H32 := hide hl32
                 have b16 : 0 < a.length ∧ 16 ≤ a.length := by omega
                 have b32 : 0 < bs.length ∧ 32 ≤ bs.length := by omega
                 clear hl16 hl32
                 go_upto_region 20 with go_skip
                 refine wp_region_held_drew (S := fun w' => RowB w' (gc + 1) (.slice (some ⟨ba, oa, none⟩) a.length ca) a ∧ RowB w' (gc + 1) (.slice (some ⟨bb, ob, none⟩) bs.length cb) bs ∧ Below gc w2 w') (by kernel_rfl) ⟨HRA.out.keptB (Below.refl _ _).drew, HRB.out.keptB (Below.refl _ _).drew, HV.out.drew⟩ (fun hHeld => ?_)
                 replace HB := hide HB.out.drew
                 refine take_e 83 (i := 0) (v := .slice (some ⟨ba, oa, none⟩) a.length ca) rfl (by kernel_rfl) (Or.inl ⟨by kernel_rfl, fun w' hS => exec_move _ rfl _ rfl⟩) hHeld ?_
                 simp only [Act.put, s1_, s2_, s3_]
                 refine take_e 84 (i := 1) (v := .pointer (some ⟨ba, oa, none⟩)) rfl (by kernel_rfl) (Or.inl ⟨by kernel_rfl, fun w' hS => exec_arrayAt _ _ rfl 5 16 _ a.length ca rfl Tryd.underlying23 (by omega)⟩) hHeld ?_
                 simp only [Act.put, s1_, s2_, s3_]
                 refine take_e 85 (i := 2) (v := .agg (u8s a).toArray) rfl (by kernel_rfl) (Or.inl ⟨by kernel_rfl, fun w' hS => exec_load_arr _ _ rfl ba oa rfl _ _ (part_range hS.1 (by omega)) Tryd.underlying23 rfl (by rw [u8s_len, H16.out]; exact size_key)⟩) hHeld ?_
                 simp only [Act.put, s1_, s2_, s3_]
                 refine take_e 86 (i := 3) (v := .slice (some ⟨bb, ob, none⟩) bs.length cb) rfl (by kernel_rfl) (Or.inl ⟨by kernel_rfl, fun w' hS => exec_move _ rfl _ rfl⟩) hHeld ?_
                 simp only [Act.put, s1_, s2_, s3_]
                 refine take_e 87 (i := 4) (v := .pointer (some ⟨bb, ob, none⟩)) rfl (by kernel_rfl) (Or.inl ⟨by kernel_rfl, fun w' hS => exec_arrayAt _ _ rfl 5 32 _ bs.length cb rfl Tryd.underlying25 (by omega)⟩) hHeld ?_
                 simp only [Act.put, s1_, s2_, s3_]
                 refine take_e 88 (i := 5) (v := .agg (u8s bs).toArray) rfl (by kernel_rfl) (Or.inl ⟨by kernel_rfl, fun w' hS => exec_load_arr _ _ rfl bb ob rfl _ _ (part_range hS.2.1 (by omega)) Tryd.underlying25 rfl (by rw [u8s_len, H32.out]; exact size_hash)⟩) hHeld ?_
                 simp only [Act.put, s1_, s2_, s3_]
                 refine take_e 89 (i := 6) (v := .pointer (some ⟨gc, 1, none⟩)) rfl (by kernel_rfl) (Or.inl ⟨by kernel_rfl, fun w' hS => exec_field _ 1 1 rfl _ rfl rfl⟩) hHeld ?_
                 simp only [Act.put, s1_, s2_, s3_]
                 refine wpAnyH_ready (rs := [7]) (by kernel_rfl) (by simp) (AllReadyH.cons rfl (fun K hK => ?_) AllReadyH.nil)
                 rw [if_pos (by kernel_rfl)]
                 refine wp_cap_putKeyD rfl _ _ rfl rfl HB.out a rfl H16.out ?_
                 intro ws hbs hgs hss
                 replace HB := hide hbs
                 have HX := hide (show _ ∧ _ ∧ _ from ⟨hHeld.1.off hgs (by omega), hHeld.2.1.off hgs (by omega), hHeld.2.2.grown hgs (by have := HZZ.out _ hHeld.2.2; omega) (by intro k hk; simp at hk; omega)⟩)
                 clear hbs hgs hss
                 refine hK.out _ _ HX.out (fun hHeld => ?_)
                 clear HX hK K
                 try simp only [Act.put, s1_, s2_, s3_]
                 refine take_e 90 (i := 8) (v := .pointer (some ⟨gc, 17, none⟩)) rfl (by kernel_rfl) (Or.inl ⟨by kernel_rfl, fun w' hS => exec_field _ 2 17 rfl _ rfl rfl⟩) hHeld ?_
                 simp only [Act.put, s1_, s2_, s3_]
                 refine wpAnyH_ready (rs := [9]) (by kernel_rfl) (by simp) (AllReadyH.cons rfl (fun K hK => ?_) AllReadyH.nil)
                 rw [if_pos (by kernel_rfl)]
                 refine wp_cap_putFpD rfl _ _ rfl rfl HB.out bs rfl H32.out ?_
                 intro ws hbs hgs hss
                 replace HB := hide hbs
                 have HX := hide (show _ ∧ _ ∧ _ from ⟨hHeld.1.off hgs (by omega), hHeld.2.1.off hgs (by omega), hHeld.2.2.grown hgs (by have := HZZ.out _ hHeld.2.2; omega) (by intro k hk; simp at hk; omega)⟩)
                 clear hbs hgs hss
                 refine hK.out _ _ HX.out (fun hHeld => ?_)
                 clear HX hK K
                 try simp only [Act.put, s1_, s2_, s3_]
                 refine wpAnyH_done (by kernel_rfl) ?_ _
                 replace HV := hide hHeld.2.2
                 clear hHeld
                 by_cases h7 : L.length = 7
                 · have HC := hide (cand_file HL.out HAB.out HNK.out HBB.out ⟨H16.out, H32.out⟩ h7)
                   have g7 : ((L.length : Int) == 7) = true := by simp; omega
                   have HNU4 := hide (fun w => number_any (strOfNums (L.getD 4 [])) w (by have := HPL.out 4; rw [← strB_len, strB_of (HPB.out 4)]; omega))
                   rw [strB_of (HPB.out 4)] at HNU4
                   have HC4 := hide (fun (w' : World) (h : Below gc w2 w') => Parts.cell (HP.out.below h) 4 (by omega))
                   obtain ⟨Q4, HQ4⟩ : ∃ x, Hid (strOfNums (L.getD 4 []) = x) := ⟨_, hide rfl⟩
                   obtain ⟨n4, HM4⟩ : ∃ x, Hid (numP (L.getD 4 []) = x) := ⟨_, hide rfl⟩
                   rw [HQ4.out] at HNU4 HC4
                   rw [HM4.out] at HNU4 HC
                   have HNU5 := hide (fun w => number_any (strOfNums (L.getD 5 [])) w (by have := HPL.out 5; rw [← strB_len, strB_of (HPB.out 5)]; omega))
                   rw [strB_of (HPB.out 5)] at HNU5
                   have HC5 := hide (fun (w' : World) (h : Below gc w2 w') => Parts.cell (HP.out.below h) 5 (by omega))
                   obtain ⟨Q5, HQ5⟩ : ∃ x, Hid (strOfNums (L.getD 5 []) = x) := ⟨_, hide rfl⟩
                   obtain ⟨n5, HM5⟩ : ∃ x, Hid (numP (L.getD 5 []) = x) := ⟨_, hide rfl⟩
                   rw [HQ5.out] at HNU5 HC5
                   rw [HM5.out] at HNU5 HC
                   have HNU6 := hide (fun w => number_any (strOfNums (L.getD 6 [])) w (by have := HPL.out 6; rw [← strB_len, strB_of (HPB.out 6)]; omega))
                   rw [strB_of (HPB.out 6)] at HNU6
                   have HC6 := hide (fun (w' : World) (h : Below gc w2 w') => Parts.cell (HP.out.below h) 6 (by omega))
                   obtain ⟨Q6, HQ6⟩ : ∃ x, Hid (strOfNums (L.getD 6 []) = x) := ⟨_, hide rfl⟩
                   obtain ⟨n6, HM6⟩ : ∃ x, Hid (numP (L.getD 6 []) = x) := ⟨_, hide rfl⟩
                   rw [HQ6.out] at HNU6 HC6
                   rw [HM6.out] at HNU6 HC
                   have b7 : 6 < L.length := by omega
                   clear h7
                   go_upto_region 22 with fail
                   refine wp_region_held_drew (S := fun w' => Below gc w2 w') (by kernel_rfl) HV.out.drew (fun hHeld => ?_)
                   replace HB := hide HB.out.drew
                   refine take_e 94 (i := 0) (v := .slice (some ⟨b, o, none⟩) L.length cp) rfl (by kernel_rfl) (Or.inl ⟨by kernel_rfl, fun w' hS => exec_move _ rfl _ rfl⟩) hHeld ?_
                   simp only [Act.put, s1_, s2_, s3_]
                   refine take_e 95 (i := 1) (v := .pointer (some ⟨b, o + 4, none⟩)) rfl (by kernel_rfl) (Or.inl ⟨by kernel_rfl, fun w' hS => exec_index_str _ _ rfl b o _ cp 4 rfl rfl (by omega)⟩) hHeld ?_
                   simp only [Act.put, s1_, s2_, s3_]
                   refine take_e 96 (i := 2) (v := .string Q4) rfl (by kernel_rfl) (Or.inl ⟨by kernel_rfl, fun w' hS => exec_int_val _ rfl b _ rfl _ (HC4.out w' hS)⟩) hHeld ?_
                   simp only [Act.put, s1_, s2_, s3_]
                   refine take_e 98 (i := 4) (v := .slice (some ⟨b, o, none⟩) L.length cp) rfl (by kernel_rfl) (Or.inl ⟨by kernel_rfl, fun w' hS => exec_move _ rfl _ rfl⟩) hHeld ?_
                   simp only [Act.put, s1_, s2_, s3_]
                   refine take_e 99 (i := 5) (v := .pointer (some ⟨b, o + 5, none⟩)) rfl (by kernel_rfl) (Or.inl ⟨by kernel_rfl, fun w' hS => exec_index_str _ _ rfl b o _ cp 5 rfl rfl (by omega)⟩) hHeld ?_
                   simp only [Act.put, s1_, s2_, s3_]
                   refine take_e 100 (i := 6) (v := .string Q5) rfl (by kernel_rfl) (Or.inl ⟨by kernel_rfl, fun w' hS => exec_int_val _ rfl b _ rfl _ (HC5.out w' hS)⟩) hHeld ?_
                   simp only [Act.put, s1_, s2_, s3_]
                   refine take_e 102 (i := 8) (v := .slice (some ⟨b, o, none⟩) L.length cp) rfl (by kernel_rfl) (Or.inl ⟨by kernel_rfl, fun w' hS => exec_move _ rfl _ rfl⟩) hHeld ?_
                   simp only [Act.put, s1_, s2_, s3_]
                   refine take_e 103 (i := 9) (v := .pointer (some ⟨b, o + 6, none⟩)) rfl (by kernel_rfl) (Or.inl ⟨by kernel_rfl, fun w' hS => exec_index_str _ _ rfl b o _ cp 6 rfl rfl (by omega)⟩) hHeld ?_
                   simp only [Act.put, s1_, s2_, s3_]
                   refine take_e 104 (i := 10) (v := .string Q6) rfl (by kernel_rfl) (Or.inl ⟨by kernel_rfl, fun w' hS => exec_int_val _ rfl b _ rfl _ (HC6.out w' hS)⟩) hHeld ?_
                   simp only [Act.put, s1_, s2_, s3_]
                   refine wpAnyH_ready (rs := [3]) (by kernel_rfl) (by simp) (AllReadyH.cons rfl (fun K hK => ?_) AllReadyH.nil)
                   rw [if_pos (by kernel_rfl)]
                   try go_simp
                   refine (HNU4.out _).mono ?_
                   rintro e wn ⟨rfl, hbn⟩
                   have HX := hide (hHeld.trans (hbn.mono (HZZ.out _ hHeld)))
                   replace HB := hide (HB.out.below hbn HB.out.lt)
                   clear hbn
                   refine hK.out _ _ HX.out (fun hHeld => ?_)
                   clear HX hK K
                   try simp only [Act.put, s1_, s2_, s3_]
                   refine take_e 106 (i := 12) (v := .pointer (some ⟨gc, 49, none⟩)) rfl (by kernel_rfl) (Or.inl ⟨by kernel_rfl, fun w' hS => exec_field _ 3 49 rfl _ rfl rfl⟩) hHeld ?_
                   simp only [Act.put, s1_, s2_, s3_]
                   refine wpAnyH_ready (rs := [7]) (by kernel_rfl) (by simp) (AllReadyH.cons rfl (fun K hK => ?_) AllReadyH.nil)
                   rw [if_pos (by kernel_rfl)]
                   try go_simp
                   refine (HNU5.out _).mono ?_
                   rintro e wn ⟨rfl, hbn⟩
                   have HX := hide (hHeld.trans (hbn.mono (HZZ.out _ hHeld)))
                   replace HB := hide (HB.out.below hbn HB.out.lt)
                   clear hbn
                   refine hK.out _ _ HX.out (fun hHeld => ?_)
                   clear HX hK K
                   try simp only [Act.put, s1_, s2_, s3_]
                   refine wpAnyH_ready (rs := [11]) (by kernel_rfl) (by simp) (AllReadyH.cons rfl (fun K hK => ?_) AllReadyH.nil)
                   rw [if_pos (by kernel_rfl)]
                   try go_simp
                   refine (HNU6.out _).mono ?_
                   rintro e wn ⟨rfl, hbn⟩
                   have HX := hide (hHeld.trans (hbn.mono (HZZ.out _ hHeld)))
                   replace HB := hide (HB.out.below hbn HB.out.lt)
                   clear hbn
                   refine hK.out _ _ HX.out (fun hHeld => ?_)
                   clear HX hK K
                   try simp only [Act.put, s1_, s2_, s3_]
                   refine wpAnyH_ready (rs := [13]) (by kernel_rfl) (by simp) (AllReadyH.cons rfl (fun K hK => ?_) AllReadyH.nil)
                   rw [if_pos (by kernel_rfl)]
                   refine wp_cap_putD rfl _ _ rfl 49 rfl HB.out n4 rfl _ rfl ?_
                   intro ws hbs hgs hss
                   replace HB := hide hbs
                   have HX := hide (hHeld.grown hgs (HZZ.out _ hHeld) (by intro k hk; simp at hk; omega))
                   clear hbs hgs hss
                   refine hK.out _ _ HX.out (fun hHeld => ?_)
                   clear HX hK K
                   try simp only [Act.put, s1_, s2_, s3_]
                   refine take_e 107 (i := 14) (v := .pointer (some ⟨gc, 50, none⟩)) rfl (by kernel_rfl) (Or.inl ⟨by kernel_rfl, fun w' hS => exec_field _ 4 50 rfl _ rfl rfl⟩) hHeld ?_
                   simp only [Act.put, s1_, s2_, s3_]
                   refine wpAnyH_ready (rs := [15]) (by kernel_rfl) (by simp) (AllReadyH.cons rfl (fun K hK => ?_) AllReadyH.nil)
                   rw [if_pos (by kernel_rfl)]
                   refine wp_cap_putD rfl _ _ rfl 50 rfl HB.out n5 rfl _ rfl ?_
                   intro ws hbs hgs hss
                   replace HB := hide hbs
                   have HX := hide (hHeld.grown hgs (HZZ.out _ hHeld) (by intro k hk; simp at hk; omega))
                   clear hbs hgs hss
                   refine hK.out _ _ HX.out (fun hHeld => ?_)
                   clear HX hK K
                   try simp only [Act.put, s1_, s2_, s3_]
                   refine take_e 108 (i := 16) (v := .pointer (some ⟨gc, 51, none⟩)) rfl (by kernel_rfl) (Or.inl ⟨by kernel_rfl, fun w' hS => exec_field _ 5 51 rfl _ rfl rfl⟩) hHeld ?_
                   simp only [Act.put, s1_, s2_, s3_]
                   refine wpAnyH_ready (rs := [17]) (by kernel_rfl) (by simp) (AllReadyH.cons rfl (fun K hK => ?_) AllReadyH.nil)
                   rw [if_pos (by kernel_rfl)]
                   refine wp_cap_putD rfl _ _ rfl 51 rfl HB.out n6 rfl _ rfl ?_
                   intro ws hbs hgs hss
                   replace HB := hide hbs
                   have HX := hide (hHeld.grown hgs (HZZ.out _ hHeld) (by intro k hk; simp at hk; omega))
                   clear hbs hgs hss
                   refine hK.out _ _ HX.out (fun hHeld => ?_)
                   clear HX hK K
                   try simp only [Act.put, s1_, s2_, s3_]
                   refine wpAnyH_done (by kernel_rfl) ?_ _
                   replace HV := hide hHeld
                   clear hHeld
                   go_wp2_with fail
                   go_meet
                   rw [HK.out] at HC
                   exact ⟨_, _, HC.out, HB.out, RowB.nil_ _ _, by simp, HV.out⟩
                 · have HC := hide (cand_slot HL.out h4 HAB.out HNK.out HBB.out ⟨H16.out, H32.out⟩ h7)
                   have g7 : ((L.length : Int) == 7) = false := by simp; omega
                   go_wp2_with fail
                   go_meet
                   rw [HK.out] at HC
                   exact ⟨_, _, HC.out, HB.out, RowB.nil_ _ _, by simp, HV.out⟩
               · have HN := hide (parse_none (cand_len HL.out h4 HAB.out HNK.out HBB.out hlen))
                 replace HR := hide (HR.out.below HV.out (by omega))
                 replace HW := hide (HW.out.trans (HV.out.mono (by omega)))
                 have hwz := HW.out.size
                 by_cases hl16 : a.length = 16
                 · have e16 : ((a.length : Int) != 16) = false := by simp; omega
                   have e32 : ((bs.length : Int) != 32) = true := by simp; omega
                   go_wp2_with (first
                    | go_skip
                    | (refine wpList_none_cap rfl rfl ?_)
                    | (refine wpList_cap_putAll _ _ rfl rfl rfl HR.out CapD.none_ (.slice none 0 0) rfl rfl rfl rfl ?_; intro wp hbp hgp hsp; replace HR := hide hbp; replace HW := hide (HW.out.grown hgp (by omega) (by intro k hk; simp at hk; omega)); clear hbp hgp))
                   refine bodyPost_ret (results_cap_err rfl _ _ w.heap.size _ _ rfl HR.out _ rfl) rfl ?_
                   exact .inr ⟨HN.out, rfl, HW.out⟩
                 · have e16 : ((a.length : Int) != 16) = true := by simp; omega
                   go_wp2_with (first
                    | go_skip
                    | (refine wpList_none_cap rfl rfl ?_)
                    | (refine wpList_cap_putAll _ _ rfl rfl rfl HR.out CapD.none_ (.slice none 0 0) rfl rfl rfl rfl ?_; intro wp hbp hgp hsp; replace HR := hide hbp; replace HW := hide (HW.out.grown hgp (by omega) (by intro k hk; simp at hk; omega)); clear hbp hgp))
                   refine bodyPost_ret (results_cap_err rfl _ _ w.heap.size _ _ rfl HR.out _ rfl) rfl ?_
                   exact .inr ⟨HN.out, rfl, HW.out⟩
             · have HN := hide (parse_none (cand_no3 HL.out h4 HAB.out HNK.out hbs))
               replace HV := hide (HV.out.trans (hb6.mono (by omega)))
               clear hb6 hbs
               replace HR := hide (HR.out.below HV.out (by omega))
               replace HW := hide (HW.out.trans (HV.out.mono (by omega)))
               have hwz := HW.out.size
               go_wp2_with (first
                | go_skip
                | (refine wpList_none_cap rfl rfl ?_)
                | (refine wpList_cap_putAll _ _ rfl rfl rfl HR.out CapD.none_ (.slice none 0 0) rfl rfl rfl rfl ?_; intro wp hbp hgp hsp; replace HR := hide hbp; replace HW := hide (HW.out.grown hgp (by omega) (by intro k hk; simp at hk; omega)); clear hbp hgp))
               refine bodyPost_ret (results_cap_err rfl _ _ w.heap.size _ _ rfl HR.out _ rfl) rfl ?_
               exact .inr ⟨HN.out, rfl, HW.out⟩
           · have HC := hide (cand_bare HL.out (by omega) HAB.out HNK.out h4)
             have g4 : ¬ (3 : Int) < (L.length : Int) := by omega
             go_wp2_with (first
              | (refine wpList_cap_int _ rfl 0 rfl rfl HB.out _ rfl ?_))
             go_meet
             rw [HK.out] at HC
             exact ⟨_, _, HC.out, HB.out, RowB.nil_ _ _, by simp, HV.out⟩
        case rest =>
         obtain ⟨c, l, hcand, hcb, hrow, hsm, hbel⟩ := hcut
         replace HB := hide hcb
         replace HV := hide hbel
         have HRL := hide hrow
         have HCD := hide hcand
         have HSM := hide hsm
         clear hcb hbel hrow hcand hsm
         replace HR := hide (HR.out.below HV.out (by omega))
         replace HW := hide (HW.out.trans (HV.out.mono (by omega)))
         have hwz := HW.out.size
         have hz := HB.out.lt
         replace HT := hide ((HT.out.below HW.out (Nat.le_refl _)).more hwz)
         have HPR := hide (Print_any c l wc ⟨candP_wf HCD.out, HRL.out.reads, HSM.out⟩ HT.out)
         have HONE := hide HRL.out.one
         obtain ⟨CV, HCV⟩ : ∃ x, Hid (capV c l = x) := ⟨_, hide rfl⟩
         rw [HCV.out] at HPR
         go_wp2_with (first
          | (refine wpList_cap_all _ rfl rfl rfl HB.out ?_; rw [HCV.out]))
         refine HPR.out.mono ?_
         rintro e w6 ⟨rfl, hb6⟩
         have hs6 := hb6.size
         replace HB := hide (HB.out.below hb6 HB.out.lt)
         replace HRL := hide (HRL.out.keptB hb6)
         replace HR := hide (HR.out.below hb6 (by omega))
         replace HW := hide (HW.out.trans (hb6.mono (by omega)))
         clear hb6 HPR HV HP
         by_cases hv : c.Valid ∧ printF c = xs
         · have HY := hide (parse_some HCD.out hv.1 hv.2)
           have HE0 := hide (show printE c = 0 from if_pos hv.1)
           have HS0 := hide (show printS c = s by rw [printS, if_pos hv.1, hv.2]; exact HSS.out)
           rw [HE0.out, HS0.out]
           clear hv
           go_wp2_with (first
            | go_skip
            | (refine wpList_cap_all _ rfl rfl rfl HB.out ?_)
            | (refine wpList_cap_putAll _ _ rfl rfl rfl HR.out c l rfl HB.out.keyL HB.out.fpL HONE.out ?_; intro wp hbp hgp hsp; replace HR := hide hbp; replace HRL := hide (HRL.out.off hgp (by omega)); replace HW := hide (HW.out.grown hgp (by omega) (by intro k hk; simp at hk; omega)); clear hbp hgp))
           refine bodyPost_ret (results_cap_err rfl _ _ w.heap.size _ _ rfl HR.out _ rfl) rfl ?_
           exact .inl ⟨c, l, HY.out, rfl, HRL.out.more (by omega), HW.out⟩
         · have HN := hide (parse_not HCD.out hv)
           by_cases hva : c.Valid
           · have HE0 := hide (show printE c = 0 from if_pos hva)
             have HS0 := hide (show ¬ printS c = s by
              rw [printS, if_pos hva]
              intro h
              rw [← HSS.out] at h
              exact hv ⟨hva, (strOf_inj (printF_bytes hva) HSB.out).1 h⟩)
             rw [HE0.out]
             obtain ⟨PS, HPS⟩ : ∃ x, Hid (printS c = x) := ⟨_, hide rfl⟩
             rw [HPS.out] at HS0 ⊢
             have hq := str_ne HS0.out
             clear hv hva
             go_wp2_with (first
              | go_skip
              | (refine wpList_none_cap rfl rfl ?_)
              | (refine wpList_cap_putAll _ _ rfl rfl rfl HR.out CapD.none_ (.slice none 0 0) rfl rfl rfl rfl ?_; intro wp hbp hgp hsp; replace HR := hide hbp; replace HW := hide (HW.out.grown hgp (by omega) (by intro k hk; simp at hk; omega)); clear hbp hgp))
             refine bodyPost_ret (results_cap_err rfl _ _ w.heap.size _ _ rfl HR.out _ rfl) rfl ?_
             exact .inr ⟨HN.out, rfl, HW.out⟩
           · have HE0 := hide (show printE c = 11 from if_neg hva)
             rw [HE0.out]
             clear hv hva
             go_wp2_with (first
              | go_skip
              | (refine wpList_none_cap rfl rfl ?_)
              | (refine wpList_cap_putAll _ _ rfl rfl rfl HR.out CapD.none_ (.slice none 0 0) rfl rfl rfl rfl ?_; intro wp hbp hgp hsp; replace HR := hide hbp; replace HW := hide (HW.out.grown hgp (by omega) (by intro k hk; simp at hk; omega)); clear hbp hgp))
             refine bodyPost_ret (results_cap_err rfl _ _ w.heap.size _ _ rfl HR.out _ rfl) rfl ?_
             exact .inr ⟨HN.out, rfl, HW.out⟩
      · have HN := hide (parse_none (cand_no2 HL.out (by omega) hab))
        replace HV := hide (HV.out.trans (hb5.mono (by omega)))
        clear hb5 hab
        replace HR := hide (HR.out.below HV.out (by omega))
        replace HW := hide (HW.out.trans (HV.out.mono (by omega)))
        have hwz := HW.out.size
        go_wp2_with (first
         | go_skip
         | (refine wpList_none_cap rfl rfl ?_)
         | (refine wpList_cap_putAll _ _ rfl rfl rfl HR.out CapD.none_ (.slice none 0 0) rfl rfl rfl rfl ?_; intro wp hbp hgp hsp; replace HR := hide hbp; replace HW := hide (HW.out.grown hgp (by omega) (by intro k hk; simp at hk; omega)); clear hbp hgp))
        refine bodyPost_ret (results_cap_err rfl _ _ w.heap.size _ _ rfl HR.out _ rfl) rfl ?_
        exact .inr ⟨HN.out, rfl, HW.out⟩
end Go.Proofs.YthdjgebbjogmiaaDoor
