/- The reference's Print: a capability's text, or that there is none. Condition: the library's table is laid; a literal of at most 1000 bytes. -/
import Derived.Test.YthdjgebbjogmiaaGreatDoorCapValid
import Derived.Test.YthdjgebbjogmiaaGreatDoorJoin8
import Derived.Test.YthdjgebbjogmiaaGreatDoorJoin26
import Derived.Test.YthdjgebbjogmiaaGreatDoorJoin10
import Derived.LoopIn
import Derived.Deep.DeepCutAuto
set_option linter.unusedVariables false
set_option linter.unusedSimpArgs false
namespace Go.Proofs.YthdjgebbjogmiaaGreatDoor
open Go Go.RowKit
set_option linter.unusedVariables false
set_option maxRecDepth 100000

theorem Digits_str (n : Int) (w : World) (h0 : 0 ≤ n) (hn : n ≤ 9223372036854775807) :
 Calls Tryz.prog 42 #[.int .i64 n] w fun e w' => e = .returned (.string (strOfNums (digB n.toNat))) ∧ Below w.heap.size w w' := by
 have : Calls Tryz.prog 42 #[.int .i64 ((n.toNat : Nat) : Int)] w fun e w' => e = .returned (.string (strOfNums (digB n.toNat))) ∧ Below w.heap.size w w' :=
  (Digits_ref n.toNat (by omega) w).mono fun e w' ⟨s, he, hs, hb⟩ => ⟨by rw [he, ← hs, strOf_strB], hb⟩
 rwa [Int.toNat_of_nonneg h0] at this

set_option maxHeartbeats 8000000 in
theorem Print_ref (c : CapD) (lit : Value) (w : World) (hc : CapIn w c lit) :
 Calls Tryz.prog 18 #[capV c lit] w fun e w' => e = .returned (.tuple #[.string (printS c), .int .i64 (printE c)]) ∧ Below w.heap.size w w' := by
 have HVA := hide (fun w => Valid_ref c lit w hc.v);obtain ⟨A, k, hl⟩ := hc.row.len;have H1 := hide hc.keyL;have H2 := hide hc.fpL;have HKB := hide hc.keyB;have HFB := hide hc.fpB;have HLR := hide hc.row;have HLB := hide hc.litB;have HLS := hide hc.small;have H3 := hide (show lit.oneCell' = true by rw [hl]; rfl);have HF := hide (fun w => file_ref c lit w hc.v);clear hl hc;obtain ⟨CV, HCV⟩ : ∃ x, Hid (capV c lit = x) := ⟨_, hide rfl⟩;rw [HCV.out] at HVA HF ⊢
 by_cases hv : c.Valid
 case neg =>
  have HS := hide (show printS c = { data := #[] } from if_neg hv);have HE := hide (show printE c = 11 from if_neg hv);rw [show decide c.Valid = false from decide_eq_false hv] at HVA;clear hv
  go_enter Tryz.func18, Tryz.ntmps18
  go_wp2_with (first
   | (refine wpList_cap_new _ rfl (HCV.out.symm) rfl H1.out H2.out H3.out ?_; intro w1 hb1 hw1 hs1; have HB := hide hb1; have HW := hide hw1; clear hb1 hw1)
   | (refine wpList_cap_all _ rfl rfl rfl HB.out ?_; rw [HCV.out])
   | (go_at_call 15; refine (HVA.out _).mono ?_; rintro e w2 ⟨rfl, hb2⟩; have hs2 := hb2.size; replace HW := hide (HW.out.trans (hb2.mono (by omega))); clear hb2))
  go_ret2
  exact ⟨by rw [HS.out, HE.out]; rfl, HW.out⟩
 case pos =>
  have HE := hide (show printE c = 0 from if_pos hv);have HPB := hide (printF_bytes hv);rw [show decide c.Valid = true from decide_eq_true hv] at HVA
  have hk : 1 ≤ c.kind ∧ c.kind ≤ 9 := by unfold CapD.Valid at hv; omega
  obtain ⟨kn, hkn⟩ : ∃ n : Nat, c.kind = (n : Int) := ⟨c.kind.toNat, by omega⟩
  have hk9 : kn < 10 := by omega
  have HWB := hide (strB_word hk9);have HWZ := hide (word_size hk9);have HWA := hide (fun w => word_ref kn hk9 w);obtain ⟨WS, HWS⟩ : ∃ x, Hid (wordS kn = x) := ⟨_, hide rfl⟩;rw [HWS.out] at HWB HWZ HWA;have HBL0 := hide (b32F_len c.lit);have HBK0 := hide (b32F_len c.key);have HBF0 := hide (b32F_len c.fp);obtain ⟨BL, HBL⟩ : ∃ x, Hid (strOfNums (b32F c.lit) = x) := ⟨_, hide rfl⟩;obtain ⟨BK, HBK⟩ : ∃ x, Hid (strOfNums (b32F c.key) = x) := ⟨_, hide rfl⟩;obtain ⟨BF, HBF⟩ : ∃ x, Hid (strOfNums (b32F c.fp) = x) := ⟨_, hide rfl⟩
  have zBL : BL.size ≤ 30000 := by rw [← HBL.out, strOfNums_size, HBL0.out]; have := HLS.out; omega
  have zBK : BK.size ≤ 30 := by rw [← HBK.out, strOfNums_size, HBK0.out, H1.out]; omega
  have zBF : BF.size ≤ 60 := by rw [← HBF.out, strOfNums_size, HBF0.out, H2.out]; omega
  have HCL := hide (fun (w' : World) (h : Bs w' w'.heap.size lit c.lit) => Base32_ref lit c.lit w' h HLB.out (by have := HLS.out; omega));have HCK := hide (fun (w' : World) (h : CapB w' w.heap.size c lit) => Base32_ref (.slice (some ⟨w.heap.size, 1, none⟩) 16 16) c.key w' (h.keyRow h.lt) HKB.out (by rw [H1.out]; omega));have HCF := hide (fun (w' : World) (h : CapB w' w.heap.size c lit) => Base32_ref (.slice (some ⟨w.heap.size, 17, none⟩) 32 32) c.fp w' (h.fpRow h.lt) HFB.out (by rw [H2.out]; omega));rw [HBL.out] at HCL;rw [HBK.out] at HCK;rw [HBF.out] at HCF;have zc : ({ data := #[58] } : ByteArray).size = 1 := rfl;have za : ({ data := #[97, 117, 58] } : ByteArray).size = 3 := rfl;have zw : WS.size ≤ 11 := HWZ.out;have HT0 := hide (show strB (({ data := #[97, 117, 58] } : ByteArray) ++ WS ++ ({ data := #[58] } : ByteArray)) = [97, 117, 58] ++ wordL kn ++ [58] by rw [strB_app, strB_app, HWB.out]; rfl);have HP := hide (show printS c = strOfNums (printF c) from if_pos hv)
  have hz1 : ({ data := #[97, 117, 58] } : ByteArray).size + WS.size ≤ 9223372036854775807 := by omega
  have hz2 : (({ data := #[97, 117, 58] } : ByteArray) ++ WS).size + ({ data := #[58] } : ByteArray).size ≤ 9223372036854775807 := by simp only [size_app]; omega
  obtain ⟨KI, hki⟩ : ∃ n, c.kind = n := ⟨_, rfl⟩;have HKI := hide hki
  go_enter Tryz.func18, Tryz.ntmps18
  go_upto_region 4 with (first
   | (go_at_call 40; refine (HWA.out _).mono ?_; rintro e w3 ⟨rfl, rfl⟩)
   | (refine wpList_cap_int _ rfl _ rfl rfl HB.out _ rfl ?_)
   | (refine wpList_cap_new _ rfl (HCV.out.symm) rfl H1.out H2.out H3.out ?_; intro w1 hb1 hw1 hs1; have HB := hide hb1; have HW := hide hw1; clear hb1 hw1)
   | (refine wpList_cap_all _ rfl rfl rfl HB.out ?_; rw [HCV.out])
   | (go_at_call 15; refine (HVA.out _).mono ?_; rintro e w2 ⟨rfl, hb2⟩; have hs2 := hb2.size; replace HB := hide (HB.out.below hb2 HB.out.lt); replace HW := hide (HW.out.trans (hb2.mono (by omega))); clear hb2))
  obtain ⟨T0, HTT⟩ : ∃ x, Hid ((({ data := #[97, 117, 58] } : ByteArray) ++ WS ++ ({ data := #[58] } : ByteArray)) = x) := ⟨_, hide rfl⟩;rw [HTT.out] at HT0 ⊢
  have zT : T0.size ≤ 15 := by rw [← HTT.out]; simp only [size_app]; omega
  clear HWA HTT
  by_cases k3 : c.kind = 3
  · have HPF := hide (show T0 ++ BL = printS c by
     rw [HP.out];refine str_of (by rw [strB_app, HT0.out, ← HBL.out, strB_of (b32F_bytes _), printF, if_pos k3, hkn]; simp)
     )
    have b3 : (c.kind == 3) = true := by rw [beq_iff_eq]; exact k3
    clear hk hki k3
    go_wp2_with (first
     | (refine wpList_cap_int _ rfl _ rfl rfl HB.out _ rfl ?_)
     | (refine wpList_cap_lit _ rfl rfl rfl HB.out ?_)
     | (go_at_call 41; refine (HCL.out w2 (HLR.out.below HW.out (Nat.le_refl _) |>.more HW.out.size)).mono ?_; rintro e w4 ⟨rfl, hb4⟩; replace HW := hide (HW.out.trans (hb4.mono HW.out.size)); clear hb4))
    go_ret2
    exact ⟨by rw [← HPF.out, HE.out]; rfl, HW.out⟩
  · have b3 : (c.kind == 3) = false := by rw [beq_eq_false_iff_ne]; exact k3
    go_upto_region 6 with (first
     | (refine wpList_cap_int _ rfl _ rfl rfl HB.out _ rfl ?_))
    refine wp_region_quietC (fun w' => Below w2.heap.size w2 w') (by kernel_rfl) (by kernel_rfl) (Below.refl _ _).drew ?_;refine quiet_val 21 rfl (by kernel_rfl) (fun w' hw' => exec_move _ rfl (.string T0) rfl) ?_;simp only [s_];refine quiet_val 22 rfl (by kernel_rfl) (fun w' hw' => exec_field _ 1 1 rfl _ rfl rfl) ?_;simp only [s_];refine quiet_val 23 rfl (by kernel_rfl) (fun w' hw' => exec_slice_key _ rfl _ _ rfl) ?_;simp only [s_];refine quiet_call 24 rfl (by kernel_rfl) 41 #[.slice (some ⟨w.heap.size, 1, none⟩) 16 16] (fun w' => exec_call _ _ _ rfl _ (by simp [Act.eval]) (by go_simp)) (fun w' hw' => calls_below hw' (HCK.out w' (HB.out.below hw' HB.out.lt))) ?_;simp only [s_];refine quiet_val 25 rfl (by kernel_rfl) (fun w' hw' => exec_add _ _ rfl BK ({ data := #[58] } : ByteArray) rfl rfl (by (try simp only [size_app]); omega)) ?_;simp only [s_];refine quiet_val 26 rfl (by kernel_rfl) (fun w' hw' => exec_field _ 2 17 rfl _ rfl rfl) ?_;simp only [s_];refine quiet_val 27 rfl (by kernel_rfl) (fun w' hw' => exec_slice_hash _ rfl _ _ rfl) ?_;simp only [s_];refine quiet_call 28 rfl (by kernel_rfl) 41 #[.slice (some ⟨w.heap.size, 17, none⟩) 32 32] (fun w' => exec_call _ _ _ rfl _ (by simp [Act.eval]) (by go_simp)) (fun w' hw' => calls_below hw' (HCF.out w' (HB.out.below hw' HB.out.lt))) ?_;simp only [s_];refine quiet_val 29 rfl (by kernel_rfl) (fun w' hw' => exec_add _ _ rfl (BK ++ ({ data := #[58] } : ByteArray)) BF rfl rfl (by (try simp only [size_app]); omega)) ?_
    simp only [s_];refine quiet_val 30 rfl (by kernel_rfl) (fun w' hw' => exec_add _ _ rfl T0 (BK ++ ({ data := #[58] } : ByteArray) ++ BF) rfl rfl (by (try simp only [size_app]); omega)) ?_;simp only [s_];refine quiet_val 4 rfl (by kernel_rfl) (fun w' hw' => exec_assign _ rfl (.string (T0 ++ (BK ++ ({ data := #[58] } : ByteArray) ++ BF))) rfl) ?_;simp only [s_];refine wpQuiet_nil ?_;intro w4 hb4;have hs4 := hb4.size;replace HB := hide (HB.out.below hb4 HB.out.lt);replace HW := hide (HW.out.trans (hb4.mono (by omega)));clear hb4;obtain ⟨T1, HTT⟩ : ∃ x, Hid ((T0 ++ (BK ++ ({ data := #[58] } : ByteArray) ++ BF)) = x) := ⟨_, hide rfl⟩
    have HT1 := hide (show strB T1 = [97, 117, 58] ++ wordL kn ++ [58] ++ b32F c.key ++ [58] ++ b32F c.fp by
     rw [← HTT.out, strB_app, strB_app, strB_app, HT0.out, ← HBK.out, ← HBF.out, strB_of (b32F_bytes _), strB_of (b32F_bytes _), strB_col]; simp)
    rw [HTT.out]
    have zT1 : T1.size ≤ 200 := by rw [← HTT.out]; simp only [size_app]; omega
    clear HTT
    by_cases k2 : c.kind ≤ 2
    case neg =>
     have HPF := hide (show T1 = printS c by
      rw [HP.out]
      refine str_of (by rw [HT1.out, printF, if_neg k3, if_neg k2, hkn]; simp))
     rw [show decide (c.kind = 1 ∨ c.kind = 2) = false from decide_eq_false (by omega)] at HF
     go_wp2_with (first
      | (refine wpList_cap_all _ rfl rfl rfl HB.out ?_; rw [HCV.out])
      | (go_at_call 36; refine (HF.out _).mono ?_; rintro e w6 ⟨rfl, hb6⟩; have hs6 := hb6.size; replace HB := hide (HB.out.below hb6 HB.out.lt); replace HW := hide (HW.out.trans (hb6.mono HW.out.size)); clear hb6))
     go_ret2
     exact ⟨by rw [← HPF.out, HE.out]; rfl, HW.out⟩
    case pos =>
     have hval : 1 ≤ c.K ∧ c.K ≤ c.N ∧ c.N ≤ 16 ∧ 1 ≤ c.S ∧ c.S ≤ 1024 := by unfold CapD.Valid at hv; omega
     obtain ⟨DK, HDK⟩ : ∃ x, Hid (strOfNums (digB c.K.toNat) = x) := ⟨_, hide rfl⟩;obtain ⟨DN, HDN⟩ : ∃ x, Hid (strOfNums (digB c.N.toNat) = x) := ⟨_, hide rfl⟩;obtain ⟨DS, HDS⟩ : ∃ x, Hid (strOfNums (digB c.S.toNat) = x) := ⟨_, hide rfl⟩
     have zDK : DK.size ≤ 19 := by rw [← HDK.out, strOfNums_size]; exact digits_bound _ (by omega)
     have zDN : DN.size ≤ 19 := by rw [← HDN.out, strOfNums_size]; exact digits_bound _ (by omega)
     have zDS : DS.size ≤ 19 := by rw [← HDS.out, strOfNums_size]; exact digits_bound _ (by omega)
     have HIK := hide (fun (w' : World) => Digits_str c.K w' (by omega) (by omega));have HIN := hide (fun (w' : World) => Digits_str c.N w' (by omega) (by omega));have HIS := hide (fun (w' : World) => Digits_str c.S w' (by omega) (by omega));rw [HDK.out] at HIK;rw [HDN.out] at HIN;rw [HDS.out] at HIS
     have HPF := hide (show T1 ++ (((((({ data := #[58] } : ByteArray) ++ DK) ++ ({ data := #[58] } : ByteArray)) ++ DN) ++ ({ data := #[58] } : ByteArray)) ++ DS) = printS c by
      rw [HP.out]
      refine str_of (by rw [strB_app, strB_app, strB_app, strB_app, strB_app, strB_app, HT1.out, ← HDK.out, ← HDN.out, ← HDS.out, strB_of (digB_bytes _), strB_of (digB_bytes _), strB_of (digB_bytes _), strB_col, printF, if_neg k3, if_pos k2, hkn]; simp))
     rw [show decide (c.kind = 1 ∨ c.kind = 2) = true from decide_eq_true (by omega)] at HF
     go_upto_region 8 with (first
      | (refine wpList_cap_all _ rfl rfl rfl HB.out ?_; rw [HCV.out])
      | (go_at_call 36; refine (HF.out _).mono ?_; rintro e w6 ⟨rfl, hb6⟩; have hs6 := hb6.size; replace HB := hide (HB.out.below hb6 HB.out.lt); replace HW := hide (HW.out.trans (hb6.mono HW.out.size)); clear hb6))
     refine wp_region_quietC (fun w' => Below w6.heap.size w6 w') (by kernel_rfl) (by kernel_rfl) (Below.refl _ _).drew ?_;refine quiet_val 33 rfl (by kernel_rfl) (fun w' hw' => exec_move _ rfl (.string T1) rfl) ?_;simp only [s_];refine quiet_val 34 rfl (by kernel_rfl) (fun w' hw' => exec_field _ 3 49 rfl _ rfl rfl) ?_;simp only [s_];refine quiet_val 35 rfl (by kernel_rfl) (fun w' hw' => exec_load_one _ _ rfl _ 49 rfl _ Tryz.underlying3 rfl _ ((HB.out.below hw' HB.out.lt).int_ rfl)) ?_;simp only [s_];refine quiet_call 36 rfl (by kernel_rfl) 42 #[.int .i64 c.K] (fun w' => exec_call _ _ _ rfl _ (by simp [Act.eval]) (by go_simp)) (fun w' hw' => calls_below hw' (HIK.out w')) ?_;simp only [s_];refine quiet_val 37 rfl (by kernel_rfl) (fun w' hw' => exec_add _ _ rfl ({ data := #[58] } : ByteArray) DK rfl rfl (by (try simp only [size_app]); omega)) ?_;simp only [s_];refine quiet_val 38 rfl (by kernel_rfl) (fun w' hw' => exec_add _ _ rfl (({ data := #[58] } : ByteArray) ++ DK) ({ data := #[58] } : ByteArray) rfl rfl (by (try simp only [size_app]); omega)) ?_;simp only [s_];refine quiet_val 39 rfl (by kernel_rfl) (fun w' hw' => exec_field _ 4 50 rfl _ rfl rfl) ?_;simp only [s_];refine quiet_val 40 rfl (by kernel_rfl) (fun w' hw' => exec_load_one _ _ rfl _ 50 rfl _ Tryz.underlying3 rfl _ ((HB.out.below hw' HB.out.lt).int_ rfl)) ?_;simp only [s_]
     refine quiet_call 41 rfl (by kernel_rfl) 42 #[.int .i64 c.N] (fun w' => exec_call _ _ _ rfl _ (by simp [Act.eval]) (by go_simp)) (fun w' hw' => calls_below hw' (HIN.out w')) ?_;simp only [s_];refine quiet_val 42 rfl (by kernel_rfl) (fun w' hw' => exec_add _ _ rfl ((({ data := #[58] } : ByteArray) ++ DK) ++ ({ data := #[58] } : ByteArray)) DN rfl rfl (by (try simp only [size_app]); omega)) ?_;simp only [s_];refine quiet_val 43 rfl (by kernel_rfl) (fun w' hw' => exec_add _ _ rfl (((({ data := #[58] } : ByteArray) ++ DK) ++ ({ data := #[58] } : ByteArray)) ++ DN) ({ data := #[58] } : ByteArray) rfl rfl (by (try simp only [size_app]); omega)) ?_;simp only [s_];refine quiet_val 44 rfl (by kernel_rfl) (fun w' hw' => exec_field _ 5 51 rfl _ rfl rfl) ?_;simp only [s_];refine quiet_val 45 rfl (by kernel_rfl) (fun w' hw' => exec_load_one _ _ rfl _ 51 rfl _ Tryz.underlying3 rfl _ ((HB.out.below hw' HB.out.lt).int_ rfl)) ?_;simp only [s_];refine quiet_call 46 rfl (by kernel_rfl) 42 #[.int .i64 c.S] (fun w' => exec_call _ _ _ rfl _ (by simp [Act.eval]) (by go_simp)) (fun w' hw' => calls_below hw' (HIS.out w')) ?_;simp only [s_];refine quiet_val 47 rfl (by kernel_rfl) (fun w' hw' => exec_add _ _ rfl ((((({ data := #[58] } : ByteArray) ++ DK) ++ ({ data := #[58] } : ByteArray)) ++ DN) ++ ({ data := #[58] } : ByteArray)) DS rfl rfl (by (try simp only [size_app]); omega)) ?_;simp only [s_]
     refine quiet_val 48 rfl (by kernel_rfl) (fun w' hw' => exec_add _ _ rfl T1 (((((({ data := #[58] } : ByteArray) ++ DK) ++ ({ data := #[58] } : ByteArray)) ++ DN) ++ ({ data := #[58] } : ByteArray)) ++ DS) rfl rfl (by (try simp only [size_app]); omega)) ?_;simp only [s_];refine quiet_val 4 rfl (by kernel_rfl) (fun w' hw' => exec_assign _ rfl (.string (T1 ++ (((((({ data := #[58] } : ByteArray) ++ DK) ++ ({ data := #[58] } : ByteArray)) ++ DN) ++ ({ data := #[58] } : ByteArray)) ++ DS))) rfl) ?_;simp only [s_];refine wpQuiet_nil ?_;intro w5 hb5;have hs5 := hb5.size;replace HB := hide (HB.out.below hb5 HB.out.lt);replace HW := hide (HW.out.trans (hb5.mono (by omega)));clear hb5;rw [HPF.out]
     go_wp2_with fail
     go_ret2
     exact ⟨by rw [HE.out]; rfl, HW.out⟩
end Go.Proofs.YthdjgebbjogmiaaGreatDoor
