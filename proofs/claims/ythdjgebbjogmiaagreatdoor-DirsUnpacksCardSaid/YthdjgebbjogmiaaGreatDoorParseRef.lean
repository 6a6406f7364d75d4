/- aumbryref13.Parse: the capability of a text, or that there is none: the same as caps.Parse's. Condition: at most a thousand letters. -/
import Derived.Test.YthdjgebbjogmiaaGreatDoorJoin25
import Derived.Test.YthdjgebbjogmiaaGreatDoorJoin26
import Derived.Test.YthdjgebbjogmiaaGreatDoorPrintRef
import Derived.Test.YthdjgebbjogmiaaGreatDoorJoin7
import Derived.Deep.DeepCutAuto
import Derived.Deep.CutBlock
set_option linter.unusedVariables false
set_option linter.unusedSimpArgs false
namespace Go.Proofs.YthdjgebbjogmiaaGreatDoor
open Go Go.RowKit

set_option maxRecDepth 100000
set_option maxHeartbeats 16000000 in
theorem Parse_ref (s : ByteArray) (w : World) (hn : s.size ≤ 16000) :
 Calls Tryz.prog 33 #[.string s] w (ParsePost w (strB s)) := by
 have HSP := hide (fun w => split_ref s w (by omega));have HSB := hide (strB_bytes s);have HSS := hide (strOf_strB s);have HPL := hide (fun k => show ((splitF (strB s)).getD k []).length ≤ 16000 by have := part_len (strB s) k; rw [strB_len] at this; omega);have HPB := hide (fun k => part_bytes HSB.out k);have HLN := hide (show 0 < (splitF (strB s)).length ∧ (splitF (strB s)).length ≤ 1000000 by have := splitF_count (strB s); rw [strB_len] at this; omega);obtain ⟨xs, HXS⟩ : ∃ x, Hid (strB s = x) := ⟨_, hide rfl⟩;rw [HXS.out] at HSP HSB HSS HPL HPB HLN;rw [HXS.out];obtain ⟨L, HL⟩ : ∃ L, Hid (splitF xs = L) := ⟨_, hide rfl⟩;rw [HL.out] at HSP HPL HPB HLN;have hL0 := HLN.out.1;have hLM := HLN.out.2;clear HXS
 go_enter Tryz.func33, Tryz.ntmps33
 go_wp2_with (first
  | (refine wpList_cap_zero rfl rfl ?_; intro w1 hb1 hw1 hs1; have HR := hide hb1; have HW := hide hw1; clear hb1 hw1))
 refine (HSP.out _).mono ?_;rintro e w2 ⟨v, rfl, hrow, hb2⟩;have hs2 := hb2.size;have HP := hide (show Parts w2 w2.heap.size v L from StrRow.reads hrow);obtain ⟨b, o, cp, rfl, hcp, hbb⟩ := HP.out.open_ hL0;replace HR := hide (HR.out.below hb2 HR.out.lt);replace HW := hide (HW.out.trans (hb2.mono (by omega)));clear hrow hb2;obtain ⟨gc, hgc⟩ : ∃ g, w2.heap.size = g := ⟨_, rfl⟩;rw [hgc] at HP hbb hs2
 go_upto_region 3 with (first
  | (refine wpList_cap_zero rfl rfl ?_; intro w3 hb3 hw3 hs3; rw [hgc] at hb3 hw3 hs3; have HB := hide hb3; have HV := hide hw3; clear hb3 hw3))
 by_cases h3 : L.length < 3
 · have d2 : ((L.length : Int) < 3) := by omega
   have HN := hide (parseq_none (candq_short HL.out h3));replace HR := hide (HR.out.below HV.out (by omega));replace HW := hide (HW.out.trans (HV.out.mono (by omega)));have hwz := HW.out.size
   go_wp2_with (first
    | go_skip
    | (refine wpList_none_cap rfl rfl ?_)
    | (refine wpList_cap_putAll _ _ rfl rfl rfl HR.out CapD.none_ (.slice none 0 0) rfl rfl rfl rfl ?_; intro wp hbp hgp hsp; replace HR := hide hbp; replace HW := hide (HW.out.grown hgp (by omega) (by intro k hk; simp at hk; omega)); clear hbp hgp))
   refine bodyPost_ret (results_cap_err rfl _ _ w.heap.size _ _ rfl HR.out _ rfl) rfl ?_;exact .inr ⟨HN.out, rfl, HW.out⟩
 · have d2 : ¬ ((L.length : Int) < 3) := by omega
   have HIX := hide (fun (k : Nat) (h : k < 10) (w' : World) => word_ref k h w');have HZZ := hide (show ∀ w' : World, Below gc w2 w' → gc ≤ w'.heap.size from fun w' h => by have := h.size; omega);have hc1 := hide (fun (w' : World) (h : Below gc w2 w') => Parts.cell (HP.out.below h) 1 (by omega));obtain ⟨PS, HPS⟩ : ∃ x, Hid (strOfNums (L.getD 1 []) = x) := ⟨_, hide rfl⟩;rw [HPS.out] at hc1
   go_wp2_with fail
   go_loopw [6] (fun v6 wr => ∃ i : Nat, 1 ≤ i ∧ i ≤ 10 ∧ v6 = .int .i64 i ∧ CapB wr gc { CapD.none_ with kind := kindN (L.getD 1 []) i } (.slice none 0 0) ∧ Below gc w2 wr) (fun v6 _ => 10 - (intOf v6).toNat)
   case atStart => exact ⟨1, by omega, by omega, rfl, HB.out, HV.out⟩
   case round =>
    obtain ⟨i, hi1, hi, rfl, hcb, hbel⟩ := hrel;replace HB := hide hcb;replace HV := hide hbel;clear hcb hbel;obtain ⟨kd, HKD⟩ : ∃ k, Hid (kindN (L.getD 1 []) i = k) := ⟨_, hide rfl⟩;rw [HKD.out] at HB;have hz := HB.out.lt
    by_cases hi10 : i < 10
    · have HWD := hide (HIX.out i hi10)
      have HQ := hide (wordS_eq (HPB.out 1) hi10);have HK1 := hide (show kindN (L.getD 1 []) (i + 1) = if 0 < i ∧ wordL i = L.getD 1 [] then (i : Int) else kd by rw [kindN, HKD.out]);obtain ⟨WS, HWS⟩ : ∃ x, Hid (wordS i = x) := ⟨_, hide rfl⟩
      have HQ2 : Hid (WS = PS ↔ wordL i = L.getD 1 []) := by rw [← HWS.out, ← HPS.out]; exact HQ.out
      rw [HWS.out] at HWD
      have i1 : (i : Int) < 10 := by omega
      clear HQ;obtain ⟨q, HQB⟩ : ∃ q, Hid ((WS.toList == PS.toList) = q) := ⟨_, hide rfl⟩
      go_upto_region 8 with fail
      refine wp_region_held_drew (S := fun w' => Below gc w2 w' ∧ CapB w' gc { CapD.none_ with kind := kd } (.slice none 0 0)) (by kernel_rfl) ⟨HV.out.drew, HB.out.drew⟩ (fun hHeld => ?_);refine take_f 25 (i := 0) (v := .int .i64 (i : Int)) rfl (fun w' hS => exec_move _ rfl _ rfl) hHeld ?_;simp only [s_];refine take_f 27 (i := 2) (v := .slice (some ⟨b, o, none⟩) L.length cp) rfl (fun w' hS => exec_move _ rfl _ rfl) hHeld ?_;simp only [s_];refine take_f 28 (i := 3) (v := .pointer (some ⟨b, o + 1, none⟩)) rfl (fun w' hS => exec_index_str _ _ rfl b o _ cp 1 rfl rfl (by omega)) hHeld ?_;simp only [s_];refine take_f 29 (i := 4) (v := .string PS) rfl (fun w' hS => exec_int_val _ rfl b _ rfl _ (hc1.out w' hS.1)) hHeld ?_;simp only [s_];refine wpAnyH_ready (rs := [1]) (by kernel_rfl) (by simp) (AllReadyH.cons rfl (fun K hK => ?_) AllReadyH.nil);rw [if_pos (by kernel_rfl)]
      try go_simp
      refine (HWD.out _).mono ?_;rintro e wn ⟨rfl, rfl⟩;refine hK.out _ _ hHeld (fun hHeld => ?_);clear hK K
      try simp only [s_]
      refine take_f 30 (i := 5) (v := .bool q) rfl (fun w' hS => exec_eql_str _ _ rfl WS PS rfl rfl q HQB.out) hHeld ?_;simp only [s_];refine wpAnyH_done (by kernel_rfl) ?_ _;replace HV := hide hHeld.1;replace HB := hide hHeld.2;have hz2 := HB.out.lt;clear hHeld
      by_cases hw : WS = PS
      · have HK2 := hide (show kindN (L.getD 1 []) (i + 1) = i by rw [HK1.out, if_pos ⟨by omega, HQ2.out.1 hw⟩])
        obtain rfl : true = q := by rw [← HQB.out, hw]; exact (beq_self_eq_true _).symm
        go_wp2_with (first
         | (refine wpList_cap_put _ _ rfl 0 rfl rfl HB.out i rfl _ rfl ?_; intro wp hbp hgp hsp; replace HB := hide hbp; replace HV := hide (HV.out.grown hgp (by omega) (by intro k hk; simp at hk; omega)); clear hbp hgp))
        go_roundw
        case measure => simp [intOf]; omega
        case rel => exact ⟨i + 1, by omega, by omega, by go_num, by rw [HK2.out]; exact HB.out, HV.out⟩
      · have HK2 := hide (show kindN (L.getD 1 []) (i + 1) = kd by rw [HK1.out, if_neg (fun h => hw (HQ2.out.2 h.2))])
        obtain rfl : false = q := by rw [← HQB.out]; exact (str_ne hw).symm
        go_wp2_with fail
        go_roundw
        case measure => simp [intOf]; omega
        case rel => exact ⟨i + 1, by omega, by omega, by go_num, by rw [HK2.out]; exact HB.out, HV.out⟩
    · have e10 : i = 10 := by omega
      subst e10;have HK := hide (show kindF (L.getD 1 []) = kd by rw [← kindN_all]; exact HKD.out);have hc2 := Parts.cell (HP.out.below HV.out) 2 (by omega);have HBY := hide (fun w => Bytes32_ref (strOfNums (L.getD 2 [])) w (by have := HPL.out 2; rw [← strB_len, strB_of (HPB.out 2)]; omega));rw [strB_of (HPB.out 2)] at HBY;obtain ⟨P2, HP2⟩ : ∃ x, Hid (strOfNums (L.getD 2 []) = x) := ⟨_, hide rfl⟩;rw [HP2.out] at hc2 HBY
      have l2 : (2 : Int) < (L.length : Int) := by omega
      go_wp2_with fail
      refine (HBY.out _).mono ?_;rintro e w5 hby
      have hby2 : ∃ (va : Value) (a : List Int) (ok : Bool), (bytes32F (L.getD 2 [])).getD [] = a ∧ e = .returned (.tuple #[va, .bool ok]) ∧ RowB w5 wr.heap.size va a ∧ Below wr.heap.size wr w5 := by
       rcases hby with ⟨va, a, hab, he, hra, hb5⟩ | ⟨hab, he, hb5⟩
       · exact ⟨va, a, true, by rw [hab]; rfl, he, hra, hb5⟩
       · exact ⟨_, [], false, by rw [hab]; rfl, he, RowB.nil_ _ _, hb5⟩
      clear hby;obtain ⟨va, a, ok, hab, rfl, hra, hb5⟩ := hby2;have hs5 := hb5.size;replace HB := hide (HB.out.below hb5 HB.out.lt);replace HV := hide (HV.out.trans (hb5.mono (by omega)));have HRA := hide (hra.more (show gc + 1 ≤ _ by omega));obtain ⟨Aa, ca, rfl⟩ := hra.shape
      have HAL := hide (show a.length ≤ 16000 by
       rw [← hab]
       cases h : bytes32F (L.getD 2 []) with
       | none => simp
       | some x => exact Nat.le_trans (bytes32_len h) (HPL.out 2))
      have hal := HAL.out;have HAB := hide hab;clear hra hb5 hab HBY
      go_upto_region 11 with fail
      obtain ⟨q3, e3⟩ : ∃ q, (kd == 3) = q := ⟨_, rfl⟩
      go_upto_if 42 with (first
       | (refine wpList_cap_int _ rfl 0 rfl rfl HB.out _ rfl ?_))
      go_cut [9, 10, 11, 12] from 43 to 109 (fun v9 v10 v11 v12 wx => ∃ (c : CapD) (l : Value), candQ xs = some c ∧ CapB wx gc c l ∧ RowB wx (gc + 1) l c.lit ∧ c.lit.length ≤ 16000 ∧ Below gc w2 wx)
      case first =>
       have hz := HB.out.lt
       by_cases hk3 : kd = 3
       · have HC := hide (candq_lit HL.out (by omega) HAB.out (by rw [HK.out]; exact hk3))
         subst hk3
         obtain rfl : true = q3 := by rw [← e3]; rfl
         go_wp2_with (first
          | (refine wpList_cap_putLit _ _ rfl rfl rfl HB.out _ rfl rfl a ?_; intro wp hbp hgp hsp; replace HB := hide hbp; replace HV := hide (HV.out.grown hgp (by omega) (by intro k hk; simp at hk; omega)); replace HRA := hide (HRA.out.off hgp (by omega)); clear hbp hgp))
         go_meet
         exact ⟨_, _, HC.out, HB.out, HRA.out, HAL.out, HV.out⟩
       · have HNK := hide (show ¬ kindF (L.getD 1 []) = 3 by rw [HK.out]; exact hk3)
         obtain rfl : false = q3 := by rw [← e3]; exact (beq_eq_false_iff_ne.2 hk3).symm
         clear e3
         by_cases h16 : a.length = 16 ∧ 3 < L.length
         · obtain ⟨hl16, h4⟩ := h16
           have e16 : ((a.length : Int) == 16) = true := by simp; omega
           have g4 : (3 : Int) < (L.length : Int) := by omega
           have d4 : decide ((3 : Int) < (L.length : Int)) = true := by simp; omega
           have b16 : 0 < a.length ∧ 16 ≤ a.length := by omega
           have H16 := hide hl16;obtain ⟨ba, oa, rfl⟩ := HRA.out.ptr (by omega);clear hl16
           go_wp2_with go_skip
           go_loopw [53] (fun v53 wr => ∃ i : Nat, i ≤ 16 ∧ v53 = .int .i64 i ∧ CapB wr gc { CapD.none_ with kind := kd, key := fillN a 16 i } (.slice none 0 0) ∧ RowB wr (gc + 1) (.slice (some ⟨ba, oa, none⟩) a.length ca) a ∧ Below gc w2 wr) (fun v53 _ => 16 - (intOf v53).toNat)
           case atStart => exact ⟨0, by omega, rfl, HB.out, HRA.out, HV.out⟩
           case round =>
            obtain ⟨i, hi, rfl, hcb, hra, hbel⟩ := hrel;replace HB := hide hcb;replace HV := hide hbel;replace HRA := hide hra;clear hcb hbel hra;have hz := HB.out.lt
            by_cases hi16 : i < 16
            · obtain ⟨x, HX⟩ : ∃ x, Hid (a.getD i 0 = x) := ⟨_, hide rfl⟩
              have c1 : wr.cell? ⟨ba, oa + i, none⟩ = some (.int .u8 x) := part_range HRA.out (by omega) i _ (by rw [u8s, List.getElem?_map, List.getElem?_eq_getElem (by omega), ← HX.out, getD_el' a i (by omega)]; rfl);have HKS := hide (show (fillN a 16 i).set i x = fillN a 16 (i + 1) by rw [← HX.out]; exact fillN_set (by omega) hi16)
              have i1 : (i : Int) < 16 := by omega
              have i2 : (i : Int) < (a.length : Int) := by omega
              have i0 : (0 : Int) ≤ (i : Int) := by omega
              go_wp2_with (first
               | (refine wpList_cap_putKeyAt _ _ rfl _ rfl rfl HB.out i (by omega) (by omega) x rfl ?_; intro wp hbp hgp hsp; replace HB := hide hbp; replace HV := hide (HV.out.grown hgp (by omega) (by intro k hk; simp at hk; omega)); replace HRA := hide (HRA.out.off hgp (by omega)); clear hbp hgp))
              go_roundw
              case measure => simp [intOf]; omega
              case rel => exact ⟨i + 1, by omega, by go_num, by rw [← HKS.out]; exact HB.out, HRA.out, HV.out⟩
            · have e16' : i = 16 := by omega
              subst e16';rw [fillN_key H16.out] at HB;have hc3 := Parts.cell (HP.out.below HV.out) 3 (by omega);have HBY := hide (fun w => Bytes32_ref (strOfNums (L.getD 3 [])) w (by have := HPL.out 3; rw [← strB_len, strB_of (HPB.out 3)]; omega));rw [strB_of (HPB.out 3)] at HBY;obtain ⟨P3, HP3⟩ : ∃ x, Hid (strOfNums (L.getD 3 []) = x) := ⟨_, hide rfl⟩;rw [HP3.out] at hc3 HBY
              go_wp2_with fail
              refine (HBY.out _).mono ?_;rintro e w6 hby
              have hby2 : ∃ (vf : Value) (f : List Int) (ok2 : Bool), (bytes32F (L.getD 3 [])).getD [] = f ∧ e = .returned (.tuple #[vf, .bool ok2]) ∧ RowB w6 wr.heap.size vf f ∧ Below wr.heap.size wr w6 := by
               rcases hby with ⟨va, a, hab, he, hra, hb5⟩ | ⟨hab, he, hb5⟩
               · exact ⟨va, a, true, by rw [hab]; rfl, he, hra, hb5⟩
               · exact ⟨_, [], false, by rw [hab]; rfl, he, RowB.nil_ _ _, hb5⟩
              clear hby;obtain ⟨vf, f, ok2, hff, rfl, hrf, hb6⟩ := hby2;have hs6 := hb6.size;replace HB := hide (HB.out.below hb6 HB.out.lt);replace HV := hide (HV.out.trans (hb6.mono (by omega)));have HRF := hide (hrf.more (show gc + 1 ≤ _ by omega));obtain ⟨Af, cf, rfl⟩ := hrf.shape
              have HFL := hide (show f.length ≤ 16000 by
               rw [← hff]
               cases h : bytes32F (L.getD 3 []) with
               | none => simp
               | some x => exact Nat.le_trans (bytes32_len h) (HPL.out 3))
              have hfl := HFL.out;have HFF := hide hff;clear hrf hb6 hff HBY hc3
              go_wp2_with fail
              go_loopw [12] (fun v12 wr => ∃ i : Nat, i ≤ f.length ∧ i ≤ 32 ∧ v12 = .int .i64 i ∧ CapB wr gc { CapD.none_ with kind := kd, key := a, fp := fillN f 32 i } (.slice none 0 0) ∧ RowB wr (gc + 1) (.slice Af f.length cf) f ∧ Below gc w2 wr) (fun v12 _ => 32 - (intOf v12).toNat)
              case atStart => exact ⟨0, by omega, by omega, rfl, HB.out, HRF.out, HV.out⟩
              case round =>
               obtain ⟨i, hif, hi, rfl, hcb, hrf, hbel⟩ := hrel;replace HB := hide hcb;replace HV := hide hbel;replace HRF := hide hrf;clear hcb hbel hrf;have hz := HB.out.lt
               by_cases hit : i < f.length ∧ i < 32
               · obtain ⟨hit, hi32⟩ := hit
                 obtain ⟨x, HX⟩ : ∃ x, Hid (f.getD i 0 = x) := ⟨_, hide rfl⟩;obtain ⟨bf, of', rfl⟩ := HRF.out.ptr (by omega);have c1 : wr.cell? ⟨bf, of' + i, none⟩ = some (.int .u8 x) := part_range HRF.out (by omega) i _ (by rw [u8s, List.getElem?_map, List.getElem?_eq_getElem hit, ← HX.out, getD_el' f i hit]; rfl);have HKS := hide (show (fillN f 32 i).set i x = fillN f 32 (i + 1) by rw [← HX.out]; exact fillN_set hit hi32)
                 have i1 : (i : Int) < 32 := by omega
                 have i2 : (i : Int) < (f.length : Int) := by omega
                 have i0 : (0 : Int) ≤ (i : Int) := by omega
                 have d1 : decide ((i : Int) < 32) = true := by simp; omega
                 have d2 : decide ((i : Int) < (f.length : Int)) = true := by simp; omega
                 go_wp2_with (first
                  | go_skip
                  | (refine wpList_cap_putFpAt _ _ rfl _ rfl rfl HB.out i (by omega) (by omega) x rfl ?_; intro wp hbp hgp hsp; replace HB := hide hbp; replace HV := hide (HV.out.grown hgp (by omega) (by intro k hk; simp at hk; omega)); replace HRF := hide (HRF.out.off hgp (by omega)); clear hbp hgp))
                 go_roundw
                 case measure => simp [intOf]; omega
                 case rel => exact ⟨i + 1, by omega, by omega, by go_num, by rw [← HKS.out]; exact HB.out, HRF.out, HV.out⟩
               · rw [fillN_fp hif hi hit] at HB
                 have HFI := hide (fun w' => file_ref ⟨kd, a, fill32 f, 0, 0, 0, []⟩ (.slice none 0 0) w' ⟨H16.out, fill32_len f, none, 0, rfl⟩);obtain ⟨qf, HQF⟩ : ∃ q, Hid (decide (kd = 1 ∨ kd = 2) = q) := ⟨_, hide rfl⟩;obtain ⟨CW, HCW⟩ : ∃ x, Hid (capV ⟨kd, a, fill32 f, 0, 0, 0, []⟩ (.slice none 0 0) = x) := ⟨_, hide rfl⟩;rw [HCW.out, HQF.out] at HFI;have HQ := hide hit;clear hit
                 go_upto_region 21 with fail
                 go_cut [78] from 71 to 77 (fun v78 wx => v78 = .bool false ∧ wx = wr)
                 case first =>
                  by_cases h1 : i < f.length
                  · have i2 : (i : Int) < (f.length : Int) := by omega
                    have i3 : ¬ (i : Int) < 32 := by have := HQ.out; omega
                    have d2 : decide ((i : Int) < (f.length : Int)) = true := by simp; omega
                    have d3 : decide ((i : Int) < 32) = false := by simp; omega
                    go_wp2_with go_skip
                    go_meet
                    exact ⟨rfl, rfl⟩
                  · have i2 : ¬ (i : Int) < (f.length : Int) := by omega
                    have d2 : decide ((i : Int) < (f.length : Int)) = false := by simp; omega
                    go_wp2_with go_skip
                    go_meet
                    exact ⟨rfl, rfl⟩
                 case rest =>
                  obtain ⟨rfl, rfl⟩ := hcut;replace HB : Hid (CapB wc gc ⟨kd, a, fill32 f, 0, 0, 0, []⟩ (.slice none 0 0)) := HB
                  go_wp2_with (first
                   | go_skip
                   | (refine wpList_cap_all _ rfl rfl rfl HB.out ?_; rw [HCW.out]))
                  refine (HFI.out _).mono ?_;rintro e w7 ⟨rfl, hb7⟩;have hs7 := hb7.size;replace HB := hide (HB.out.below hb7 HB.out.lt);replace HV := hide (HV.out.trans (hb7.mono (by omega)));clear hb7
                  by_cases hfile : (kd = 1 ∨ kd = 2) ∧ 6 < L.length
                  · obtain ⟨hk12, h6⟩ := hfile
                    have HC := hide (candq_file HL.out HAB.out HFF.out H16.out (by rw [HK.out]; exact hk12) h6)
                    obtain rfl : true = qf := by rw [← HQF.out]; exact (decide_eq_true hk12).symm
                    have g6 : (6 : Int) < (L.length : Int) := by omega
                    have d6 : decide ((6 : Int) < (L.length : Int)) = true := by simp; omega
                    clear hk12;have HNU4 := hide (fun w => number_ref (strOfNums (L.getD 4 [])) w (by have := HPL.out 4; rw [← strB_len, strB_of (HPB.out 4)]; omega));rw [strB_of (HPB.out 4)] at HNU4;have HC4 := hide (fun (w' : World) (h : Below gc w2 w') => Parts.cell (HP.out.below h) 4 (by omega));obtain ⟨Q4, HQ4⟩ : ∃ x, Hid (strOfNums (L.getD 4 []) = x) := ⟨_, hide rfl⟩;obtain ⟨n4, HM4⟩ : ∃ x, Hid (numQ (L.getD 4 []) = x) := ⟨_, hide rfl⟩;rw [HQ4.out] at HNU4 HC4;rw [HM4.out] at HNU4 HC;have HNU5 := hide (fun w => number_ref (strOfNums (L.getD 5 [])) w (by have := HPL.out 5; rw [← strB_len, strB_of (HPB.out 5)]; omega));rw [strB_of (HPB.out 5)] at HNU5;have HC5 := hide (fun (w' : World) (h : Below gc w2 w') => Parts.cell (HP.out.below h) 5 (by omega));obtain ⟨Q5, HQ5⟩ : ∃ x, Hid (strOfNums (L.getD 5 []) = x) := ⟨_, hide rfl⟩;obtain ⟨n5, HM5⟩ : ∃ x, Hid (numQ (L.getD 5 []) = x) := ⟨_, hide rfl⟩;rw [HQ5.out] at HNU5 HC5;rw [HM5.out] at HNU5 HC;have HNU6 := hide (fun w => number_ref (strOfNums (L.getD 6 [])) w (by have := HPL.out 6; rw [← strB_len, strB_of (HPB.out 6)]; omega));rw [strB_of (HPB.out 6)] at HNU6;have HC6 := hide (fun (w' : World) (h : Below gc w2 w') => Parts.cell (HP.out.below h) 6 (by omega));obtain ⟨Q6, HQ6⟩ : ∃ x, Hid (strOfNums (L.getD 6 []) = x) := ⟨_, hide rfl⟩;obtain ⟨n6, HM6⟩ : ∃ x, Hid (numQ (L.getD 6 []) = x) := ⟨_, hide rfl⟩;rw [HQ6.out] at HNU6 HC6;rw [HM6.out] at HNU6 HC
                    go_upto_region 25 with go_skip
                    refine wp_region_held_drew (S := fun w' => Below gc w2 w') (by kernel_rfl) HV.out.drew (fun hHeld => ?_);replace HB := hide HB.out.drew;refine take_f 95 (i := 0) (v := .slice (some ⟨b, o, none⟩) L.length cp) rfl (fun w' hS => exec_move _ rfl _ rfl) hHeld ?_;simp only [s_];refine take_f 96 (i := 1) (v := .pointer (some ⟨b, o + 4, none⟩)) rfl (fun w' hS => exec_index_str _ _ rfl b o _ cp 4 rfl rfl (by omega)) hHeld ?_;simp only [s_];refine take_f 97 (i := 2) (v := .string Q4) rfl (fun w' hS => exec_int_val _ rfl b _ rfl _ (HC4.out w' hS)) hHeld ?_;simp only [s_];refine take_f 99 (i := 4) (v := .slice (some ⟨b, o, none⟩) L.length cp) rfl (fun w' hS => exec_move _ rfl _ rfl) hHeld ?_;simp only [s_];refine take_f 100 (i := 5) (v := .pointer (some ⟨b, o + 5, none⟩)) rfl (fun w' hS => exec_index_str _ _ rfl b o _ cp 5 rfl rfl (by omega)) hHeld ?_;simp only [s_];refine take_f 101 (i := 6) (v := .string Q5) rfl (fun w' hS => exec_int_val _ rfl b _ rfl _ (HC5.out w' hS)) hHeld ?_;simp only [s_];refine take_f 103 (i := 8) (v := .slice (some ⟨b, o, none⟩) L.length cp) rfl (fun w' hS => exec_move _ rfl _ rfl) hHeld ?_;simp only [s_];refine take_f 104 (i := 9) (v := .pointer (some ⟨b, o + 6, none⟩)) rfl (fun w' hS => exec_index_str _ _ rfl b o _ cp 6 rfl rfl (by omega)) hHeld ?_;simp only [s_];refine take_f 105 (i := 10) (v := .string Q6) rfl (fun w' hS => exec_int_val _ rfl b _ rfl _ (HC6.out w' hS)) hHeld ?_;simp only [s_]
                    refine wpAnyH_ready (rs := [3]) (by kernel_rfl) (by simp) (AllReadyH.cons rfl (fun K hK => ?_) AllReadyH.nil);rw [if_pos (by kernel_rfl)]
                    try go_simp
                    refine (HNU4.out _).mono ?_;rintro e wn ⟨rfl, hbn⟩;have HX := hide (hHeld.trans (hbn.mono (HZZ.out _ hHeld)));replace HB := hide (HB.out.below hbn HB.out.lt);clear hbn;refine hK.out _ _ HX.out (fun hHeld => ?_);clear HX hK K
                    try simp only [s_]
                    refine take_f 107 (i := 12) (v := .pointer (some ⟨gc, 49, none⟩)) rfl (fun w' hS => exec_field _ 3 49 rfl _ rfl rfl) hHeld ?_;simp only [s_];refine wpAnyH_ready (rs := [7]) (by kernel_rfl) (by simp) (AllReadyH.cons rfl (fun K hK => ?_) AllReadyH.nil);rw [if_pos (by kernel_rfl)]
                    try go_simp
                    refine (HNU5.out _).mono ?_;rintro e wn ⟨rfl, hbn⟩;have HX := hide (hHeld.trans (hbn.mono (HZZ.out _ hHeld)));replace HB := hide (HB.out.below hbn HB.out.lt);clear hbn;refine hK.out _ _ HX.out (fun hHeld => ?_);clear HX hK K
                    try simp only [s_]
                    refine wpAnyH_ready (rs := [11]) (by kernel_rfl) (by simp) (AllReadyH.cons rfl (fun K hK => ?_) AllReadyH.nil);rw [if_pos (by kernel_rfl)]
                    try go_simp
                    refine (HNU6.out _).mono ?_;rintro e wn ⟨rfl, hbn⟩;have HX := hide (hHeld.trans (hbn.mono (HZZ.out _ hHeld)));replace HB := hide (HB.out.below hbn HB.out.lt);clear hbn;refine hK.out _ _ HX.out (fun hHeld => ?_);clear HX hK K
                    try simp only [s_]
                    refine wpAnyH_ready (rs := [13]) (by kernel_rfl) (by simp) (AllReadyH.cons rfl (fun K hK => ?_) AllReadyH.nil);rw [if_pos (by kernel_rfl)];refine wp_cap_putD rfl _ _ rfl 49 rfl HB.out n4 rfl _ rfl ?_;intro ws hbs hgs hss;replace HB := hide hbs;have HX := hide (hHeld.grown hgs (HZZ.out _ hHeld) (by intro k hk; simp at hk; omega));clear hbs hgs hss;refine hK.out _ _ HX.out (fun hHeld => ?_);clear HX hK K
                    try simp only [s_]
                    refine take_f 108 (i := 14) (v := .pointer (some ⟨gc, 50, none⟩)) rfl (fun w' hS => exec_field _ 4 50 rfl _ rfl rfl) hHeld ?_;simp only [s_];refine wpAnyH_ready (rs := [15]) (by kernel_rfl) (by simp) (AllReadyH.cons rfl (fun K hK => ?_) AllReadyH.nil);rw [if_pos (by kernel_rfl)];refine wp_cap_putD rfl _ _ rfl 50 rfl HB.out n5 rfl _ rfl ?_;intro ws hbs hgs hss;replace HB := hide hbs;have HX := hide (hHeld.grown hgs (HZZ.out _ hHeld) (by intro k hk; simp at hk; omega));clear hbs hgs hss;refine hK.out _ _ HX.out (fun hHeld => ?_);clear HX hK K
                    try simp only [s_]
                    refine take_f 109 (i := 16) (v := .pointer (some ⟨gc, 51, none⟩)) rfl (fun w' hS => exec_field _ 5 51 rfl _ rfl rfl) hHeld ?_;simp only [s_];refine wpAnyH_ready (rs := [17]) (by kernel_rfl) (by simp) (AllReadyH.cons rfl (fun K hK => ?_) AllReadyH.nil);rw [if_pos (by kernel_rfl)];refine wp_cap_putD rfl _ _ rfl 51 rfl HB.out n6 rfl _ rfl ?_;intro ws hbs hgs hss;replace HB := hide hbs;have HX := hide (hHeld.grown hgs (HZZ.out _ hHeld) (by intro k hk; simp at hk; omega));clear hbs hgs hss;refine hK.out _ _ HX.out (fun hHeld => ?_);clear HX hK K
                    try simp only [s_]
                    refine wpAnyH_done (by kernel_rfl) ?_ _;replace HV := hide hHeld;clear hHeld
                    go_wp2_with fail
                    go_meet
                    rw [HK.out] at HC;exact ⟨_, _, HC.out, HB.out, RowB.nil_ _ _, by simp, HV.out⟩
                  · have HC := hide (candq_slot HL.out h4 HAB.out HFF.out H16.out HNK.out (by rw [HK.out]; exact hfile))
                    rw [HK.out] at HC
                    by_cases hk12 : kd = 1 ∨ kd = 2
                    · have g6 : ¬ (6 : Int) < (L.length : Int) := by omega
                      have d6 : decide ((6 : Int) < (L.length : Int)) = false := by simp; omega
                      obtain rfl : true = qf := by rw [← HQF.out]; exact (decide_eq_true hk12).symm
                      clear hk12 hfile
                      go_wp2_with go_skip
                      go_meet
                      exact ⟨_, _, HC.out, HB.out, RowB.nil_ _ _, by simp, HV.out⟩
                    · obtain rfl : false = qf := by rw [← HQF.out]; exact (decide_eq_false hk12).symm
                      clear hk12 hfile
                      go_wp2_with go_skip
                      go_meet
                      exact ⟨_, _, HC.out, HB.out, RowB.nil_ _ _, by simp, HV.out⟩
         · have HC := hide (candq_bare HL.out (by omega) HAB.out HNK.out h16)
           rw [HK.out] at HC
           by_cases hl16 : a.length = 16
           · have e16 : ((a.length : Int) == 16) = true := by simp; omega
             have g4 : ¬ (3 : Int) < (L.length : Int) := by omega
             have d4 : decide ((3 : Int) < (L.length : Int)) = false := by simp; omega
             clear hl16 h16
             go_wp2_with go_skip
             go_meet
             exact ⟨_, _, HC.out, HB.out, RowB.nil_ _ _, by simp, HV.out⟩
           · have e16 : ((a.length : Int) == 16) = false := by simp; omega
             clear hl16 h16
             go_wp2_with go_skip
             go_meet
             exact ⟨_, _, HC.out, HB.out, RowB.nil_ _ _, by simp, HV.out⟩
      case rest =>
       obtain ⟨c, l, hcand, hcb, hrow, hsm, hbel⟩ := hcut;replace HB := hide hcb;replace HV := hide hbel;have HRL := hide hrow;have HCD := hide hcand;have HSM := hide hsm;clear hcb hbel hrow hcand hsm;replace HR := hide (HR.out.below HV.out (by omega));replace HW := hide (HW.out.trans (HV.out.mono (by omega)));have hwz := HW.out.size;have hz := HB.out.lt;have HPR := hide (Print_ref c l wc ⟨candQ_wf HCD.out, HRL.out.reads, HSM.out⟩);have HONE := hide HRL.out.one;obtain ⟨CV, HCV⟩ : ∃ x, Hid (capV c l = x) := ⟨_, hide rfl⟩;rw [HCV.out] at HPR
       go_wp2_with (first
        | (refine wpList_cap_all _ rfl rfl rfl HB.out ?_; rw [HCV.out]))
       refine HPR.out.mono ?_;rintro e w6 ⟨rfl, hb6⟩;have hs6 := hb6.size;replace HB := hide (HB.out.below hb6 HB.out.lt);replace HRL := hide (HRL.out.keptB hb6);replace HR := hide (HR.out.below hb6 (by omega));replace HW := hide (HW.out.trans (hb6.mono (by omega)));clear hb6 HPR HV HP
       by_cases hv : c.Valid ∧ printF c = xs
       · have HY := hide (parseq_some HCD.out hv.1 hv.2)
         have HE0 := hide (show printE c = 0 from if_pos hv.1);have HS0 := hide (show printS c = s by rw [printS, if_pos hv.1, hv.2]; exact HSS.out);rw [HE0.out, HS0.out];clear hv
         go_wp2_with (first
          | go_skip
          | (refine wpList_cap_all _ rfl rfl rfl HB.out ?_)
          | (refine wpList_cap_putAll _ _ rfl rfl rfl HR.out c l rfl HB.out.keyL HB.out.fpL HONE.out ?_; intro wp hbp hgp hsp; replace HR := hide hbp; replace HRL := hide (HRL.out.off hgp (by omega)); replace HW := hide (HW.out.grown hgp (by omega) (by intro k hk; simp at hk; omega)); clear hbp hgp))
         refine bodyPost_ret (results_cap_err rfl _ _ w.heap.size _ _ rfl HR.out _ rfl) rfl ?_;exact .inl ⟨c, l, HY.out, rfl, HRL.out.more (by omega), HW.out⟩
       · have HN := hide (parseq_not HCD.out hv)
         by_cases hva : c.Valid
         · have HE0 := hide (show printE c = 0 from if_pos hva)
           have HS0 := hide (show ¬ printS c = s by
            rw [printS, if_pos hva];intro h;rw [← HSS.out] at h
            exact hv ⟨hva, (strOf_inj (printF_bytes hva) HSB.out).1 h⟩)
           rw [HE0.out];obtain ⟨PS', HPS'⟩ : ∃ x, Hid (printS c = x) := ⟨_, hide rfl⟩;rw [HPS'.out] at HS0 ⊢;have hq := str_ne HS0.out;clear hv hva
           go_wp2_with (first
            | go_skip
            | (refine wpList_none_cap rfl rfl ?_)
            | (refine wpList_cap_putAll _ _ rfl rfl rfl HR.out CapD.none_ (.slice none 0 0) rfl rfl rfl rfl ?_; intro wp hbp hgp hsp; replace HR := hide hbp; replace HW := hide (HW.out.grown hgp (by omega) (by intro k hk; simp at hk; omega)); clear hbp hgp))
           refine bodyPost_ret (results_cap_err rfl _ _ w.heap.size _ _ rfl HR.out _ rfl) rfl ?_;exact .inr ⟨HN.out, rfl, HW.out⟩
         · have HE0 := hide (show printE c = 11 from if_neg hva)
           rw [HE0.out];clear hv hva
           go_wp2_with (first
            | go_skip
            | (refine wpList_none_cap rfl rfl ?_)
            | (refine wpList_cap_putAll _ _ rfl rfl rfl HR.out CapD.none_ (.slice none 0 0) rfl rfl rfl rfl ?_; intro wp hbp hgp hsp; replace HR := hide hbp; replace HW := hide (HW.out.grown hgp (by omega) (by intro k hk; simp at hk; omega)); clear hbp hgp))
           refine bodyPost_ret (results_cap_err rfl _ _ w.heap.size _ _ rfl HR.out _ rfl) rfl ?_;exact .inr ⟨HN.out, rfl, HW.out⟩
end Go.Proofs.YthdjgebbjogmiaaGreatDoor
