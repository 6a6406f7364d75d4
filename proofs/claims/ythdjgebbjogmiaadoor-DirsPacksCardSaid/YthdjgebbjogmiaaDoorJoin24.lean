/- The reference's Print: a capability's text, or that there is none. Condition: the library's table is laid; a literal of at most 1000 bytes.
The document's sameCap: are all fields one? No condition.
The document's ReadOnly: what may only read the same. No condition. -/
import Derived.Test.YthdjgebbjogmiaaDoorCapValid
import Derived.Test.YthdjgebbjogmiaaDoorJoin8
import Derived.Test.YthdjgebbjogmiaaDoorJoin23
import Derived.Test.YthdjgebbjogmiaaDoorJoin10
import Derived.LoopIn
import Derived.Deep.DeepCutAuto
import Derived.Test.YthdjgebbjogmiaaDoorJoin12
import Derived.Test.YthdjgebbjogmiaaDoorJoin20
import Derived.Test.YthdjgebbjogmiaaDoorJoin17
import Derived.Test.YthdjgebbjogmiaaDoorCapRO
import Derived.Test.YthdjgebbjogmiaaDoorJoin22
set_option linter.unusedVariables false
set_option linter.unusedSimpArgs false
namespace Go.Proofs.YthdjgebbjogmiaaDoor
open Go Go.RowKit
set_option linter.unusedVariables false
set_option maxRecDepth 100000

theorem Digits_str (n : Int) (w : World) (h0 : 0 ≤ n) (hn : n ≤ 9223372036854775807) :
 Calls Tryd.prog 65 #[.int .i64 n] w fun e w' => e = .returned (.string (strOfNums (digB n.toNat))) ∧ Below w.heap.size w w' := by
 have : Calls Tryd.prog 65 #[.int .i64 ((n.toNat : Nat) : Int)] w fun e w' => e = .returned (.string (strOfNums (digB n.toNat))) ∧ Below w.heap.size w w' :=
  (Digits_ref n.toNat (by omega) w).mono fun e w' ⟨s, he, hs, hb⟩ => ⟨by rw [he, ← hs, strOf_strB], hb⟩
 rwa [Int.toNat_of_nonneg h0] at this

set_option maxHeartbeats 8000000 in
theorem Print_ref (c : CapD) (lit : Value) (w : World) (hc : CapIn w c lit) :
 Calls Tryd.prog 42 #[capV c lit] w fun e w' => e = .returned (.tuple #[.string (printS c), .int .i64 (printE c)]) ∧ Below w.heap.size w w' := by
 have HVA := hide (fun w => Valid_ref c lit w hc.v)
 obtain ⟨A, k, hl⟩ := hc.row.len
 have H1 := hide hc.keyL
 have H2 := hide hc.fpL
 have HKB := hide hc.keyB
 have HFB := hide hc.fpB
 have HLR := hide hc.row
 have HLB := hide hc.litB
 have HLS := hide hc.small
 have H3 := hide (show lit.oneCell' = true by rw [hl]; rfl)
 have HF := hide (fun w => file_ref c lit w hc.v)
 clear hl hc
 obtain ⟨CV, HCV⟩ : ∃ x, Hid (capV c lit = x) := ⟨_, hide rfl⟩
 rw [HCV.out] at HVA HF ⊢
 by_cases hv : c.Valid
 case neg =>
  have HS := hide (show printS c = { data := #[] } from if_neg hv)
  have HE := hide (show printE c = 11 from if_neg hv)
  rw [show decide c.Valid = false from decide_eq_false hv] at HVA
  clear hv
  go_enter Tryd.func42, Tryd.ntmps42
  go_wp2_with (first
   | (refine wpList_cap_new _ rfl (HCV.out.symm) rfl H1.out H2.out H3.out ?_; intro w1 hb1 hw1 hs1; have HB := hide hb1; have HW := hide hw1; clear hb1 hw1)
   | (refine wpList_cap_all _ rfl rfl rfl HB.out ?_; rw [HCV.out])
   | (go_at_call 34; refine (HVA.out _).mono ?_; rintro e w2 ⟨rfl, hb2⟩; have hs2 := hb2.size; replace HW := hide (HW.out.trans (hb2.mono (by omega))); clear hb2))
  go_ret2
  exact ⟨by rw [HS.out, HE.out]; rfl, HW.out⟩
 case pos =>
  have HE := hide (show printE c = 0 from if_pos hv)
  have HPB := hide (printF_bytes hv)
  rw [show decide c.Valid = true from decide_eq_true hv] at HVA
  have hk : 1 ≤ c.kind ∧ c.kind ≤ 9 := by unfold CapD.Valid at hv; omega
  obtain ⟨kn, hkn⟩ : ∃ n : Nat, c.kind = (n : Int) := ⟨c.kind.toNat, by omega⟩
  have hk9 : kn < 10 := by omega
  have HWB := hide (strB_word hk9)
  have HWZ := hide (word_size hk9)
  have HWA := hide (fun w => word_ref kn hk9 w)
  obtain ⟨WS, HWS⟩ : ∃ x, Hid (wordS kn = x) := ⟨_, hide rfl⟩
  rw [HWS.out] at HWB HWZ HWA
  have HBL0 := hide (b32F_len c.lit)
  have HBK0 := hide (b32F_len c.key)
  have HBF0 := hide (b32F_len c.fp)
  obtain ⟨BL, HBL⟩ : ∃ x, Hid (strOfNums (b32F c.lit) = x) := ⟨_, hide rfl⟩
  obtain ⟨BK, HBK⟩ : ∃ x, Hid (strOfNums (b32F c.key) = x) := ⟨_, hide rfl⟩
  obtain ⟨BF, HBF⟩ : ∃ x, Hid (strOfNums (b32F c.fp) = x) := ⟨_, hide rfl⟩
  have zBL : BL.size ≤ 30000 := by rw [← HBL.out, strOfNums_size, HBL0.out]; have := HLS.out; omega
  have zBK : BK.size ≤ 30 := by rw [← HBK.out, strOfNums_size, HBK0.out, H1.out]; omega
  have zBF : BF.size ≤ 60 := by rw [← HBF.out, strOfNums_size, HBF0.out, H2.out]; omega
  have HCL := hide (fun (w' : World) (h : Bs w' w'.heap.size lit c.lit) => Base32_ref lit c.lit w' h HLB.out (by have := HLS.out; omega))
  have HCK := hide (fun (w' : World) (h : CapB w' w.heap.size c lit) => Base32_ref (.slice (some ⟨w.heap.size, 1, none⟩) 16 16) c.key w' (h.keyRow h.lt) HKB.out (by rw [H1.out]; omega))
  have HCF := hide (fun (w' : World) (h : CapB w' w.heap.size c lit) => Base32_ref (.slice (some ⟨w.heap.size, 17, none⟩) 32 32) c.fp w' (h.fpRow h.lt) HFB.out (by rw [H2.out]; omega))
  rw [HBL.out] at HCL
  rw [HBK.out] at HCK
  rw [HBF.out] at HCF
  have zc : ({ data := #[58] } : ByteArray).size = 1 := rfl
  have za : ({ data := #[97, 117, 58] } : ByteArray).size = 3 := rfl
  have zw : WS.size ≤ 11 := HWZ.out
  have HT0 := hide (show strB (({ data := #[97, 117, 58] } : ByteArray) ++ WS ++ ({ data := #[58] } : ByteArray)) = [97, 117, 58] ++ wordL kn ++ [58] by rw [strB_app, strB_app, HWB.out]; rfl)
  have HP := hide (show printS c = strOfNums (printF c) from if_pos hv)
  have hz1 : ({ data := #[97, 117, 58] } : ByteArray).size + WS.size ≤ 9223372036854775807 := by omega
  have hz2 : (({ data := #[97, 117, 58] } : ByteArray) ++ WS).size + ({ data := #[58] } : ByteArray).size ≤ 9223372036854775807 := by simp only [size_app]; omega
  obtain ⟨KI, hki⟩ : ∃ n, c.kind = n := ⟨_, rfl⟩
  have HKI := hide hki
  go_enter Tryd.func42, Tryd.ntmps42
  go_upto_region 4 with (first
   | (go_at_call 63; refine (HWA.out _).mono ?_; rintro e w3 ⟨rfl, rfl⟩)
   | (refine wpList_cap_int _ rfl _ rfl rfl HB.out _ rfl ?_)
   | (refine wpList_cap_new _ rfl (HCV.out.symm) rfl H1.out H2.out H3.out ?_; intro w1 hb1 hw1 hs1; have HB := hide hb1; have HW := hide hw1; clear hb1 hw1)
   | (refine wpList_cap_all _ rfl rfl rfl HB.out ?_; rw [HCV.out])
   | (go_at_call 34; refine (HVA.out _).mono ?_; rintro e w2 ⟨rfl, hb2⟩; have hs2 := hb2.size; replace HB := hide (HB.out.below hb2 HB.out.lt); replace HW := hide (HW.out.trans (hb2.mono (by omega))); clear hb2))
  obtain ⟨T0, HTT⟩ : ∃ x, Hid ((({ data := #[97, 117, 58] } : ByteArray) ++ WS ++ ({ data := #[58] } : ByteArray)) = x) := ⟨_, hide rfl⟩
  rw [HTT.out] at HT0 ⊢
  have zT : T0.size ≤ 15 := by rw [← HTT.out]; simp only [size_app]; omega
  clear HWA HTT
  by_cases k3 : c.kind = 3
  · have HPF := hide (show T0 ++ BL = printS c by
     rw [HP.out]
     refine str_of (by rw [strB_app, HT0.out, ← HBL.out, strB_of (b32F_bytes _), printF, if_pos k3, hkn]; simp)
     )
    have b3 : (c.kind == 3) = true := by rw [beq_iff_eq]; exact k3
    clear hk hki k3
    go_wp2_with (first
     | (refine wpList_cap_int _ rfl _ rfl rfl HB.out _ rfl ?_)
     | (refine wpList_cap_lit _ rfl rfl rfl HB.out ?_)
     | (go_at_call 64; refine (HCL.out w2 (HLR.out.below HW.out (Nat.le_refl _) |>.more HW.out.size)).mono ?_; rintro e w4 ⟨rfl, hb4⟩; replace HW := hide (HW.out.trans (hb4.mono HW.out.size)); clear hb4))
    go_ret2
    exact ⟨by rw [← HPF.out, HE.out]; rfl, HW.out⟩
  · have b3 : (c.kind == 3) = false := by rw [beq_eq_false_iff_ne]; exact k3
    go_upto_region 6 with (first
     | (refine wpList_cap_int _ rfl _ rfl rfl HB.out _ rfl ?_))
    refine wp_region_quietC (fun w' => Below w2.heap.size w2 w') (by kernel_rfl) (by kernel_rfl) (Below.refl _ _).drew ?_
    refine quiet_val 21 rfl (by kernel_rfl) (fun w' hw' => exec_move _ rfl (.string T0) rfl) ?_
    simp only [Act.put, s1_, s2_, s3_]
    refine quiet_val 22 rfl (by kernel_rfl) (fun w' hw' => exec_field _ 1 1 rfl _ rfl rfl) ?_
    simp only [Act.put, s1_, s2_, s3_]
    refine quiet_val 23 rfl (by kernel_rfl) (fun w' hw' => exec_slice_key _ rfl _ _ rfl) ?_
    simp only [Act.put, s1_, s2_, s3_]
    refine quiet_call 24 rfl (by kernel_rfl) 64 #[.slice (some ⟨w.heap.size, 1, none⟩) 16 16] (fun w' => exec_call _ _ _ rfl _ (by simp [Act.eval]) (by go_simp)) (fun w' hw' => calls_below hw' (HCK.out w' (HB.out.below hw' HB.out.lt))) ?_
    simp only [Act.put, s1_, s2_, s3_]
    refine quiet_val 25 rfl (by kernel_rfl) (fun w' hw' => exec_add _ _ rfl BK ({ data := #[58] } : ByteArray) rfl rfl (by (try simp only [size_app]); omega)) ?_
    simp only [Act.put, s1_, s2_, s3_]
    refine quiet_val 26 rfl (by kernel_rfl) (fun w' hw' => exec_field _ 2 17 rfl _ rfl rfl) ?_
    simp only [Act.put, s1_, s2_, s3_]
    refine quiet_val 27 rfl (by kernel_rfl) (fun w' hw' => exec_slice_hash _ rfl _ _ rfl) ?_
    simp only [Act.put, s1_, s2_, s3_]
    refine quiet_call 28 rfl (by kernel_rfl) 64 #[.slice (some ⟨w.heap.size, 17, none⟩) 32 32] (fun w' => exec_call _ _ _ rfl _ (by simp [Act.eval]) (by go_simp)) (fun w' hw' => calls_below hw' (HCF.out w' (HB.out.below hw' HB.out.lt))) ?_
    simp only [Act.put, s1_, s2_, s3_]
    refine quiet_val 29 rfl (by kernel_rfl) (fun w' hw' => exec_add _ _ rfl (BK ++ ({ data := #[58] } : ByteArray)) BF rfl rfl (by (try simp only [size_app]); omega)) ?_
    simp only [Act.put, s1_, s2_, s3_]
    refine quiet_val 30 rfl (by kernel_rfl) (fun w' hw' => exec_add _ _ rfl T0 (BK ++ ({ data := #[58] } : ByteArray) ++ BF) rfl rfl (by (try simp only [size_app]); omega)) ?_
    simp only [Act.put, s1_, s2_, s3_]
    refine quiet_val 4 rfl (by kernel_rfl) (fun w' hw' => exec_assign _ rfl (.string (T0 ++ (BK ++ ({ data := #[58] } : ByteArray) ++ BF))) rfl) ?_
    simp only [Act.put, s1_, s2_, s3_]
    refine wpQuiet_nil ?_
    intro w4 hb4
    have hs4 := hb4.size
    replace HB := hide (HB.out.below hb4 HB.out.lt)
    replace HW := hide (HW.out.trans (hb4.mono (by omega)))
    clear hb4
    obtain ⟨T1, HTT⟩ : ∃ x, Hid ((T0 ++ (BK ++ ({ data := #[58] } : ByteArray) ++ BF)) = x) := ⟨_, hide rfl⟩
    have HT1 := hide (show strB T1 = [97, 117, 58] ++ wordL kn ++ [58] ++ b32F c.key ++ [58] ++ b32F c.fp by
     rw [← HTT.out, strB_app, strB_app, strB_app, HT0.out, ← HBK.out, ← HBF.out, strB_of (b32F_bytes _), strB_of (b32F_bytes _), strB_col]; simp)
    rw [HTT.out]
    have zT1 : T1.size ≤ 200 := by rw [← HTT.out]; simp only [size_app]; omega
    clear HTT
    by_cases k2 : c.kind ≤ 2
    case neg =>
     have HPF := hide (show T1 = printS c by
      rw [HP.out]
      refine str_of (by rw [HT1.out, printF, if_neg k3, if_neg k2, hkn]; simp))
     rw [show decide (c.kind = 1 ∨ c.kind = 2) = false from decide_eq_false (by omega)] at HF
     go_wp2_with (first
      | (refine wpList_cap_all _ rfl rfl rfl HB.out ?_; rw [HCV.out])
      | (go_at_call 55; refine (HF.out _).mono ?_; rintro e w6 ⟨rfl, hb6⟩; have hs6 := hb6.size; replace HB := hide (HB.out.below hb6 HB.out.lt); replace HW := hide (HW.out.trans (hb6.mono HW.out.size)); clear hb6))
     go_ret2
     exact ⟨by rw [← HPF.out, HE.out]; rfl, HW.out⟩
    case pos =>
     have hval : 1 ≤ c.K ∧ c.K ≤ c.N ∧ c.N ≤ 16 ∧ 1 ≤ c.S ∧ c.S ≤ 1024 := by unfold CapD.Valid at hv; omega
     obtain ⟨DK, HDK⟩ : ∃ x, Hid (strOfNums (digB c.K.toNat) = x) := ⟨_, hide rfl⟩
     obtain ⟨DN, HDN⟩ : ∃ x, Hid (strOfNums (digB c.N.toNat) = x) := ⟨_, hide rfl⟩
     obtain ⟨DS, HDS⟩ : ∃ x, Hid (strOfNums (digB c.S.toNat) = x) := ⟨_, hide rfl⟩
     have zDK : DK.size ≤ 19 := by rw [← HDK.out, strOfNums_size]; exact digits_bound _ (by omega)
     have zDN : DN.size ≤ 19 := by rw [← HDN.out, strOfNums_size]; exact digits_bound _ (by omega)
     have zDS : DS.size ≤ 19 := by rw [← HDS.out, strOfNums_size]; exact digits_bound _ (by omega)
     have HIK := hide (fun (w' : World) => Digits_str c.K w' (by omega) (by omega))
     have HIN := hide (fun (w' : World) => Digits_str c.N w' (by omega) (by omega))
     have HIS := hide (fun (w' : World) => Digits_str c.S w' (by omega) (by omega))
     rw [HDK.out] at HIK
     rw [HDN.out] at HIN
     rw [HDS.out] at HIS
     have HPF := hide (show T1 ++ (((((({ data := #[58] } : ByteArray) ++ DK) ++ ({ data := #[58] } : ByteArray)) ++ DN) ++ ({ data := #[58] } : ByteArray)) ++ DS) = printS c by
      rw [HP.out]
      refine str_of (by rw [strB_app, strB_app, strB_app, strB_app, strB_app, strB_app, HT1.out, ← HDK.out, ← HDN.out, ← HDS.out, strB_of (digB_bytes _), strB_of (digB_bytes _), strB_of (digB_bytes _), strB_col, printF, if_neg k3, if_pos k2, hkn]; simp))
     rw [show decide (c.kind = 1 ∨ c.kind = 2) = true from decide_eq_true (by omega)] at HF
     go_upto_region 8 with (first
      | (refine wpList_cap_all _ rfl rfl rfl HB.out ?_; rw [HCV.out])
      | (go_at_call 55; refine (HF.out _).mono ?_; rintro e w6 ⟨rfl, hb6⟩; have hs6 := hb6.size; replace HB := hide (HB.out.below hb6 HB.out.lt); replace HW := hide (HW.out.trans (hb6.mono HW.out.size)); clear hb6))
     refine wp_region_quietC (fun w' => Below w6.heap.size w6 w') (by kernel_rfl) (by kernel_rfl) (Below.refl _ _).drew ?_
     refine quiet_val 33 rfl (by kernel_rfl) (fun w' hw' => exec_move _ rfl (.string T1) rfl) ?_
     simp only [Act.put, s1_, s2_, s3_]
     refine quiet_val 34 rfl (by kernel_rfl) (fun w' hw' => exec_field _ 3 49 rfl _ rfl rfl) ?_
     simp only [Act.put, s1_, s2_, s3_]
     refine quiet_val 35 rfl (by kernel_rfl) (fun w' hw' => exec_load_one _ _ rfl _ 49 rfl _ Tryd.underlying3 rfl _ ((HB.out.below hw' HB.out.lt).int_ rfl)) ?_
     simp only [Act.put, s1_, s2_, s3_]
     refine quiet_call 36 rfl (by kernel_rfl) 65 #[.int .i64 c.K] (fun w' => exec_call _ _ _ rfl _ (by simp [Act.eval]) (by go_simp)) (fun w' hw' => calls_below hw' (HIK.out w')) ?_
     simp only [Act.put, s1_, s2_, s3_]
     refine quiet_val 37 rfl (by kernel_rfl) (fun w' hw' => exec_add _ _ rfl ({ data := #[58] } : ByteArray) DK rfl rfl (by (try simp only [size_app]); omega)) ?_
     simp only [Act.put, s1_, s2_, s3_]
     refine quiet_val 38 rfl (by kernel_rfl) (fun w' hw' => exec_add _ _ rfl (({ data := #[58] } : ByteArray) ++ DK) ({ data := #[58] } : ByteArray) rfl rfl (by (try simp only [size_app]); omega)) ?_
     simp only [Act.put, s1_, s2_, s3_]
     refine quiet_val 39 rfl (by kernel_rfl) (fun w' hw' => exec_field _ 4 50 rfl _ rfl rfl) ?_
     simp only [Act.put, s1_, s2_, s3_]
     refine quiet_val 40 rfl (by kernel_rfl) (fun w' hw' => exec_load_one _ _ rfl _ 50 rfl _ Tryd.underlying3 rfl _ ((HB.out.below hw' HB.out.lt).int_ rfl)) ?_
     simp only [Act.put, s1_, s2_, s3_]
     refine quiet_call 41 rfl (by kernel_rfl) 65 #[.int .i64 c.N] (fun w' => exec_call _ _ _ rfl _ (by simp [Act.eval]) (by go_simp)) (fun w' hw' => calls_below hw' (HIN.out w')) ?_
     simp only [Act.put, s1_, s2_, s3_]
     refine quiet_val 42 rfl (by kernel_rfl) (fun w' hw' => exec_add _ _ rfl ((({ data := #[58] } : ByteArray) ++ DK) ++ ({ data := #[58] } : ByteArray)) DN rfl rfl (by (try simp only [size_app]); omega)) ?_
     simp only [Act.put, s1_, s2_, s3_]
     refine quiet_val 43 rfl (by kernel_rfl) (fun w' hw' => exec_add _ _ rfl (((({ data := #[58] } : ByteArray) ++ DK) ++ ({ data := #[58] } : ByteArray)) ++ DN) ({ data := #[58] } : ByteArray) rfl rfl (by (try simp only [size_app]); omega)) ?_
     simp only [Act.put, s1_, s2_, s3_]
     refine quiet_val 44 rfl (by kernel_rfl) (fun w' hw' => exec_field _ 5 51 rfl _ rfl rfl) ?_
     simp only [Act.put, s1_, s2_, s3_]
     refine quiet_val 45 rfl (by kernel_rfl) (fun w' hw' => exec_load_one _ _ rfl _ 51 rfl _ Tryd.underlying3 rfl _ ((HB.out.below hw' HB.out.lt).int_ rfl)) ?_
     simp only [Act.put, s1_, s2_, s3_]
     refine quiet_call 46 rfl (by kernel_rfl) 65 #[.int .i64 c.S] (fun w' => exec_call _ _ _ rfl _ (by simp [Act.eval]) (by go_simp)) (fun w' hw' => calls_below hw' (HIS.out w')) ?_
     simp only [Act.put, s1_, s2_, s3_]
     refine quiet_val 47 rfl (by kernel_rfl) (fun w' hw' => exec_add _ _ rfl ((((({ data := #[58] } : ByteArray) ++ DK) ++ ({ data := #[58] } : ByteArray)) ++ DN) ++ ({ data := #[58] } : ByteArray)) DS rfl rfl (by (try simp only [size_app]); omega)) ?_
     simp only [Act.put, s1_, s2_, s3_]
     refine quiet_val 48 rfl (by kernel_rfl) (fun w' hw' => exec_add _ _ rfl T1 (((((({ data := #[58] } : ByteArray) ++ DK) ++ ({ data := #[58] } : ByteArray)) ++ DN) ++ ({ data := #[58] } : ByteArray)) ++ DS) rfl rfl (by (try simp only [size_app]); omega)) ?_
     simp only [Act.put, s1_, s2_, s3_]
     refine quiet_val 4 rfl (by kernel_rfl) (fun w' hw' => exec_assign _ rfl (.string (T1 ++ (((((({ data := #[58] } : ByteArray) ++ DK) ++ ({ data := #[58] } : ByteArray)) ++ DN) ++ ({ data := #[58] } : ByteArray)) ++ DS))) rfl) ?_
     simp only [Act.put, s1_, s2_, s3_]
     refine wpQuiet_nil ?_
     intro w5 hb5
     have hs5 := hb5.size
     replace HB := hide (HB.out.below hb5 HB.out.lt)
     replace HW := hide (HW.out.trans (hb5.mono (by omega)))
     clear hb5
     rw [HPF.out]
     go_wp2_with fail
     go_ret2
     exact ⟨by rw [HE.out]; rfl, HW.out⟩
end Go.Proofs.YthdjgebbjogmiaaDoor

namespace Go.Proofs.YthdjgebbjogmiaaDoor
open Go Go.RowKit
set_option linter.unusedVariables false
set_option linter.unusedSimpArgs false
set_option maxRecDepth 100000
section
variable {ops : Array Oper} {rest : List Oper} {o : Oper} {a : Act} {w : World} {Q : Exit → Act → World → Prop}
theorem exec_to_string (x : Operand) (ho : o.op = .convert 26 9 x) (B : Nat) (v : Value) (xs : List Int) (hx : a.eval x = v) (hv : Bs w B v xs) : (execOp a.eval o).run Tryd.prog w = .ok (.value (.string (strOfNums xs))) w := by
 unfold execOp
 simp only [ho, hx, Sem.run_bind, run_to_string w B v xs hv, Result.andThen_ok, Sem.run_pure]
theorem exec_eql_strS (x y : Operand) (ho : o.op = .binOp .eql 9 x y 9) (s t : ByteArray) (hx : a.eval x = .string s) (hy : a.eval y = .string t) (q : Bool) (hq : (s.toList == t.toList) = q) : (execOp a.eval o).run Tryd.prog w = .ok (.value (.bool q)) w := by
 subst hq
 unfold execOp
 simp only [ho, hx, hy]
 go_simp
end

set_option maxHeartbeats 8000000 in
theorem same_capR (a b : CapD) (la lb : Value) (w : World) (a1 : a.key.length = 16) (a2 : a.fp.length = 32) (b1 : b.key.length = 16) (b2 : b.fp.length = 32) (ha : Bs w w.heap.size la a.lit) (hb : Bs w w.heap.size lb b.lit) (hab : Bytes a.lit) (hbb : Bytes b.lit) :
 Calls Tryd.prog 48 #[capV a la, capV b lb] w fun e w' => e = .returned (.bool (sameF a b)) ∧ Below w.heap.size w w' := by
 have HA1 := hide a1
 have HA2 := hide a2
 have HB1 := hide b1
 have HB2 := hide b2
 have H3 := hide ha.one
 have H4 := hide hb.one
 obtain ⟨q7, Q7⟩ : ∃ q, Hid (decide (a.lit = b.lit) = q) := ⟨_, hide rfl⟩
 have HLA := hide ha
 have HLB := hide hb
 have HQS := hide (name_eq hab hbb)
 clear a1 a2 b1 b2 ha hb hab hbb
 obtain ⟨VA, HVA⟩ : ∃ x, Hid (capV a la = x) := ⟨_, hide rfl⟩
 obtain ⟨VB, HVB⟩ : ∃ x, Hid (capV b lb = x) := ⟨_, hide rfl⟩
 rw [HVA.out, HVB.out]
 obtain ⟨q1, Q1⟩ : ∃ q, (a.kind == b.kind) = q := ⟨_, rfl⟩
 obtain ⟨q2, Q2⟩ : ∃ q, Hid (decide (a.key = b.key) = q) := ⟨_, hide rfl⟩
 obtain ⟨q3, Q3⟩ : ∃ q, Hid (decide (a.fp = b.fp) = q) := ⟨_, hide rfl⟩
 obtain ⟨q4, Q4⟩ : ∃ q, (a.K == b.K) = q := ⟨_, rfl⟩
 obtain ⟨q5, Q5⟩ : ∃ q, (a.N == b.N) = q := ⟨_, rfl⟩
 obtain ⟨q6, Q6⟩ : ∃ q, (a.S == b.S) = q := ⟨_, rfl⟩
 have HV := hide (show sameF a b = (q1 && (q2 && (q3 && (q4 && (q5 && (q6 && q7)))))) by rw [sameF, Q1, Q2.out, Q3.out, Q4, Q5, Q6, Q7.out])
 rw [Q7.out] at HQS
 go_enter Tryd.func48, Tryd.ntmps48
 go_upto_region 1 with (first
  | (refine wpList_cap_new _ rfl (HVA.out.symm) rfl HA1.out HA2.out H3.out ?_; intro w1 hb1 hw1 hs1; have BA := hide hb1; have HW := hide hw1; clear hb1 hw1)
  | (refine wpList_cap_new _ rfl (HVB.out.symm) rfl HB1.out HB2.out H4.out ?_; intro w2 hb2 hw2 hs2; rw [hs1] at hb2; have BB := hide hb2; replace BA := hide (BA.out.below hw2 BA.out.lt); replace HW := hide (HW.out.trans (hw2.mono (by omega))); clear hb2 hw2))
 go_wp2_with (first
  | go_skip
  | (refine wpList_cap_int _ rfl _ rfl rfl BA.out _ rfl ?_)
  | (refine wpList_cap_int _ rfl _ rfl rfl BB.out _ rfl ?_)
  | (refine wpList_cap_key _ rfl rfl rfl BA.out ?_)
  | (refine wpList_cap_key _ rfl rfl rfl BB.out ?_)
  | (refine wpList_cap_fp _ rfl rfl rfl BA.out ?_)
  | (refine wpList_cap_fp _ rfl rfl rfl BB.out ?_)
  | (refine wpList_cap_lit _ rfl rfl rfl BA.out ?_)
  | (refine wpList_cap_lit _ rfl rfl rfl BB.out ?_)
  | (refine wpList_eql_key _ _ _ rfl a.key b.key rfl rfl rfl HA1.out HB1.out _ Q2.out ?_)
  | (refine wpList_eql_hash _ _ _ rfl a.fp b.fp rfl rfl rfl HA2.out HB2.out _ Q3.out ?_)
  | (refine wpList_val_ rfl (exec_to_string _ rfl w.heap.size la a.lit rfl (HLA.out.below HW.out (Nat.le_refl _))) ?_)
  | (refine wpList_val_ rfl (exec_to_string _ rfl w.heap.size lb b.lit rfl (HLB.out.below HW.out (Nat.le_refl _))) ?_)
  | (refine wpList_val_ rfl (exec_eql_strS _ _ rfl _ _ rfl rfl q7 HQS.out) ?_))
 all_goals go_ret
 all_goals refine ⟨?_, HW.out⟩
 all_goals rw [HV.out]
 all_goals refine congrArg Ending.returned (congrArg Value.bool ?_)
 all_goals simp [*]
end Go.Proofs.YthdjgebbjogmiaaDoor

namespace Go.Proofs.YthdjgebbjogmiaaDoor
open Go Go.RowKit
set_option linter.unusedVariables false
set_option linter.unusedSimpArgs false
set_option maxRecDepth 100000
set_option maxHeartbeats 8000000
theorem ReadOnly_refR (c : CapD) (lit : Value) (w : World) (hwf : c.Wf) (hl : Bs w w.heap.size lit c.lit) (hn : c.lit.length ≤ 1000000) :
 Calls Tryd.prog 38 #[capV c lit] w fun e w' => ∃ l', e = .returned (.tuple #[capV (roF c) l', .int .i64 (roE c)]) ∧ RowB w' w.heap.size l' (roF c).lit ∧ Below w.heap.size w w' := by
 have hc := capV_of hwf.keyL hwf.fpL hl
 have H1 := hide hwf.keyL
 have H2 := hide hwf.fpL
 have H3 := hide hl.one
 have HL := hide hl
 have HLB := hide hwf.litB
 have HWF := hide hwf
 obtain ⟨NN, HNN⟩ : ∃ x, Hid (CapD.none_ = x) := ⟨_, hide rfl⟩
 have HN1 := hide (show NN.key.length = 16 by rw [← HNN.out]; rfl)
 have HN2 := hide (show NN.fp.length = 32 by rw [← HNN.out]; rfl)
 have HNL := hide (show NN.lit = [] by rw [← HNN.out]; rfl)
 obtain ⟨CV, HCV⟩ : ∃ x, Hid (capV c lit = x) := ⟨_, hide rfl⟩
 by_cases hr : readF c = true
 · have HRD := hide (fun w => by have := read_ref c lit w hc; rw [hr, HCV.out] at this; exact this)
   have HE := hide (show roE c = 0 by unfold roE; rw [if_pos hr])
   have hkd := valid_kind (readF_kind hr).1
   by_cases hw : writeF c = true
   · have HWR := hide (fun w => by have := write_ref c lit w hc; rw [hw, HCV.out] at this; exact this)
     obtain ⟨KR, HKR0⟩ : ∃ x, Hid (keyF tRead c.key = x) := ⟨_, hide rfl⟩
     have HKL := hide (show KR.length = 16 by rw [← HKR0.out]; exact keyF_len _ _)
     have HSHT := hide (show shortF (strB tRead) [c.key] = KR from HKR0.out)
     have HKB := hide hwf.keyB
     have HKLn := hide hwf.keyL
     obtain ⟨C1K, HC1⟩ : ∃ x, Hid (roF c = x) := ⟨_, hide rfl⟩
     have HC1E := hide (show { c with kind := c.kind + 1, key := KR } = C1K by rw [← HC1.out, ← HKR0.out]; unfold roF; rw [if_pos hr, if_pos hw])
     have HC1L := hide (show { C1K with lit := c.lit } = C1K by rw [← HC1E.out])
     have HCL := hide (show C1K.lit = c.lit by rw [← HC1E.out])
     rw [HC1.out, HE.out]
     clear hr hw hc hwf hl
     rw [HCV.out]
     go_enter Tryd.func38, Tryd.ntmps38
     obtain ⟨g, hg⟩ : ∃ n, w.heap.size = n := ⟨_, rfl⟩
     go_wp2_with (first
      | (refine wpList_cap_new _ rfl HCV.out.symm rfl H1.out H2.out H3.out ?_; intro w1 hb1 hw1 hs1; rw [hg] at hb1 ⊢; have HB := hide hb1; have HW := hide hw1; clear hb1 hw1)
      | (refine wpList_cap_zero rfl rfl ?_; rw [HNN.out]; intro w2 hb2 hw2 hs2; have hg2 : w1.heap.size = g + 1 := (by omega); rw [hg2] at hb2; try rw [hg2]; have HZ := hide hb2; replace HB := hide (HB.out.below hw2 HB.out.lt); replace HW := hide (HW.out.trans (hw2.mono HW.out.size)); clear hb2 hw2)
      | (refine wpList_cap_all _ rfl rfl rfl HB.out ?_; rw [HCV.out]))
     refine (HRD.out _).mono ?_
     rintro e w3 ⟨rfl, hb3⟩
     replace HB := hide (HB.out.below hb3 HB.out.lt)
     replace HZ := hide (HZ.out.below hb3 HZ.out.lt)
     replace HW := hide (HW.out.trans (hb3.mono HW.out.size))
     clear hb3
     go_wp2_with (refine wpList_cap_all _ rfl rfl rfl HB.out ?_; rw [HCV.out])
     refine (HWR.out _).mono ?_
     rintro e w3 ⟨rfl, hb3⟩
     replace HB := hide (HB.out.below hb3 HB.out.lt)
     replace HZ := hide (HZ.out.below hb3 HZ.out.lt)
     replace HW := hide (HW.out.trans (hb3.mono HW.out.size))
     clear hb3
     go_wp2_with (refine wpList_rows1 rfl _ rfl (.slice (some ⟨g, 1, none⟩) 16 16) rfl rfl ?_; intro wd hbd hwd; replace HB := hide (HB.out.below hwd HB.out.lt); have HRW := hide (rows_one hbd (HB.out.keyRow HB.out.lt)); replace HZ := hide (HZ.out.below hwd HZ.out.lt); replace HW := hide (HW.out.trans (hwd.mono HW.out.size)); clear hbd hwd)
     have hcall := Short_ref tRead _ [c.key] _ HRW.out (by intro x hx; simp at hx; subst hx; exact HKB.out) (by intro x hx; simp at hx; subst hx; have := HKLn.out; omega) (by simp) (by decide)
     rw [HSHT.out] at hcall
     refine hcall.mono ?_
     clear hcall
     rintro e w4 ⟨rfl, hb⟩
     replace HB := hide (HB.out.below hb HB.out.lt)
     replace HZ := hide (HZ.out.below hb HZ.out.lt)
     replace HW := hide (HW.out.trans (hb.mono HW.out.size))
     clear hb HRW
     go_wp2_with (first
      | (refine wpList_cap_putKey _ _ rfl rfl rfl HB.out KR rfl HKL.out ?_; intro w6 hb6 hg6 hs6; replace HB := hide hb6; replace HZ := hide (HZ.out.grown hg6 (by intro h; injection h with h; omega)); replace HW := hide (HW.out.grown hg6 HW.out.size (by intro k hk; simp at hk; omega)); clear hb6 hg6)
      | (refine wpList_cap_put _ _ rfl 0 rfl rfl HB.out (c.kind + 1) rfl { c with kind := c.kind + 1, key := KR } rfl ?_; intro w6 hb6 hg6 hs6; replace HB := hide (show CapB w6 g C1K lit from (by rw [← HC1E.out]; exact hb6)); replace HZ := hide (HZ.out.grown hg6 (by intro h; injection h with h; omega)); replace HW := hide (HW.out.grown hg6 HW.out.size (by intro k hk; simp at hk; omega)); clear hb6 hg6)
      | (refine wpList_cap_int _ rfl 0 rfl rfl HB.out c.kind rfl ?_)
      | (refine wpList_cap_lit _ rfl rfl rfl HB.out ?_)
      | (at_builtin; refine wpList_append_B rfl _ _ rfl (g + 2) (.slice none 0 0) [] rfl (RowB.nil_ _ _) w.heap.size lit c.lit rfl (HL.out.below HW.out (Nat.le_refl _)) HLB.out (by simp; omega) (by have := HZ.out.lt; omega) ?_; intro l5 w5 ho5 hg5; rw [List.nil_append] at ho5; have HO5 := hide ho5; have L5 := hide ho5.one; replace HB := hide (HB.out.grown hg5 (by simp [Value.ownBlock])); replace HZ := hide (HZ.out.grown hg5 (by simp [Value.ownBlock])); replace HW := hide (HW.out.grown hg5 HW.out.size (by intro k hk; simp [Value.ownBlock] at hk)); clear ho5 hg5)
      | (refine wpList_cap_putLit _ _ rfl rfl rfl HB.out l5 rfl L5.out c.lit ?_; intro w6 hb6 hg6 hs6; replace HB := hide (show CapB w6 g C1K l5 from (by rw [← HC1L.out]; exact hb6)); replace HZ := hide (HZ.out.grown hg6 (by intro h; injection h with h; omega)); replace HO5 := hide (RowB.off HO5.out hg6 (by omega)); replace HW := hide (HW.out.grown hg6 HW.out.size (by intro k hk; simp at hk; omega)); clear hb6 hg6)
      | (refine wpList_cap_all _ rfl rfl rfl HB.out ?_)
      | (refine wpList_cap_putAll _ _ rfl rfl rfl HZ.out C1K l5 rfl HB.out.keyL HB.out.fpL HB.out.one ?_; intro w7 hb7 hg7 hs7; replace HZ := hide hb7; replace HO5 := hide (RowB.off HO5.out hg7 (by omega)); replace HW := hide (HW.out.grown hg7 HW.out.size (by intro k hk; simp at hk; omega)); clear hb7 hg7))
     refine bodyPost_ret (results_cap_err rfl _ _ (g + 1) _ _ rfl HZ.out _ rfl) rfl ?_
     exact ⟨l5, rfl, by rw [HCL.out]; exact HO5.out.more (by omega), HW.out⟩
   · have HWR := hide (fun w => by have := write_ref c lit w hc; rw [Bool.not_eq_true _ |>.mp hw, HCV.out] at this; exact this)
     obtain ⟨C1, HC1⟩ : ∃ x, Hid (c = x) := ⟨_, hide rfl⟩
     have HC1E := hide (show roF c = C1 by rw [← HC1.out]; unfold roF; rw [if_pos hr, if_neg hw])
     have HC1L := hide (show { c with lit := c.lit } = C1 from HC1.out)
     have HCL := hide (show C1.lit = c.lit by rw [← HC1.out])
     rw [HC1E.out, HE.out]
     clear hr hw hc hwf hl
     rw [HCV.out]
     go_enter Tryd.func38, Tryd.ntmps38
     obtain ⟨g, hg⟩ : ∃ n, w.heap.size = n := ⟨_, rfl⟩
     go_wp2_with (first
      | (refine wpList_cap_new _ rfl HCV.out.symm rfl H1.out H2.out H3.out ?_; intro w1 hb1 hw1 hs1; rw [hg] at hb1 ⊢; have HB := hide hb1; have HW := hide hw1; clear hb1 hw1)
      | (refine wpList_cap_zero rfl rfl ?_; rw [HNN.out]; intro w2 hb2 hw2 hs2; have hg2 : w1.heap.size = g + 1 := (by omega); rw [hg2] at hb2; try rw [hg2]; have HZ := hide hb2; replace HB := hide (HB.out.below hw2 HB.out.lt); replace HW := hide (HW.out.trans (hw2.mono HW.out.size)); clear hb2 hw2)
      | (refine wpList_cap_all _ rfl rfl rfl HB.out ?_; rw [HCV.out]))
     refine (HRD.out _).mono ?_
     rintro e w3 ⟨rfl, hb3⟩
     replace HB := hide (HB.out.below hb3 HB.out.lt)
     replace HZ := hide (HZ.out.below hb3 HZ.out.lt)
     replace HW := hide (HW.out.trans (hb3.mono HW.out.size))
     clear hb3
     go_wp2_with (refine wpList_cap_all _ rfl rfl rfl HB.out ?_; rw [HCV.out])
     refine (HWR.out _).mono ?_
     rintro e w3 ⟨rfl, hb3⟩
     replace HB := hide (HB.out.below hb3 HB.out.lt)
     replace HZ := hide (HZ.out.below hb3 HZ.out.lt)
     replace HW := hide (HW.out.trans (hb3.mono HW.out.size))
     clear hb3
     go_wp2_with (first
      | (refine wpList_cap_lit _ rfl rfl rfl HB.out ?_)
      | (at_builtin; refine wpList_append_B rfl _ _ rfl (g + 2) (.slice none 0 0) [] rfl (RowB.nil_ _ _) w.heap.size lit c.lit rfl (HL.out.below HW.out (Nat.le_refl _)) HLB.out (by simp; omega) (by have := HZ.out.lt; omega) ?_; intro l5 w5 ho5 hg5; rw [List.nil_append] at ho5; have HO5 := hide ho5; have L5 := hide ho5.one; replace HB := hide (HB.out.grown hg5 (by simp [Value.ownBlock])); replace HZ := hide (HZ.out.grown hg5 (by simp [Value.ownBlock])); replace HW := hide (HW.out.grown hg5 HW.out.size (by intro k hk; simp [Value.ownBlock] at hk)); clear ho5 hg5)
      | (refine wpList_cap_putLit _ _ rfl rfl rfl HB.out l5 rfl L5.out c.lit ?_; intro w6 hb6 hg6 hs6; replace HB := hide (show CapB w6 g C1 l5 from (by rw [← HC1L.out]; exact hb6)); replace HZ := hide (HZ.out.grown hg6 (by intro h; injection h with h; omega)); replace HO5 := hide (RowB.off HO5.out hg6 (by omega)); replace HW := hide (HW.out.grown hg6 HW.out.size (by intro k hk; simp at hk; omega)); clear hb6 hg6)
      | (refine wpList_cap_all _ rfl rfl rfl HB.out ?_)
      | (refine wpList_cap_putAll _ _ rfl rfl rfl HZ.out C1 l5 rfl HB.out.keyL HB.out.fpL HB.out.one ?_; intro w7 hb7 hg7 hs7; replace HZ := hide hb7; replace HO5 := hide (RowB.off HO5.out hg7 (by omega)); replace HW := hide (HW.out.grown hg7 HW.out.size (by intro k hk; simp at hk; omega)); clear hb7 hg7))
     refine bodyPost_ret (results_cap_err rfl _ _ (g + 1) _ _ rfl HZ.out _ rfl) rfl ?_
     exact ⟨l5, rfl, by rw [HCL.out]; exact HO5.out.more (by omega), HW.out⟩
 · have HRD := hide (fun w => by have := read_ref c lit w hc; rw [Bool.not_eq_true _ |>.mp hr, HCV.out] at this; exact this)
   have HE := hide (show roE c = 11 by unfold roE; rw [if_neg hr])
   have HC1 := hide (show roF c = NN by rw [← HNN.out]; unfold roF; rw [if_neg hr])
   rw [HC1.out, HE.out]
   clear hr hc hwf hl
   rw [HCV.out]
   go_enter Tryd.func38, Tryd.ntmps38
   obtain ⟨g, hg⟩ : ∃ n, w.heap.size = n := ⟨_, rfl⟩
   go_wp2_with (first
    | (refine wpList_cap_new _ rfl HCV.out.symm rfl H1.out H2.out H3.out ?_; intro w1 hb1 hw1 hs1; rw [hg] at hb1 ⊢; have HB := hide hb1; have HW := hide hw1; clear hb1 hw1)
    | (refine wpList_cap_zero rfl rfl ?_; rw [HNN.out]; intro w2 hb2 hw2 hs2; have hg2 : w1.heap.size = g + 1 := (by omega); rw [hg2] at hb2; try rw [hg2]; have HZ := hide hb2; replace HB := hide (HB.out.below hw2 HB.out.lt); replace HW := hide (HW.out.trans (hw2.mono HW.out.size)); clear hb2 hw2)
    | (refine wpList_cap_all _ rfl rfl rfl HB.out ?_; rw [HCV.out]))
   refine (HRD.out _).mono ?_
   rintro e w3 ⟨rfl, hb3⟩
   replace HB := hide (HB.out.below hb3 HB.out.lt)
   replace HZ := hide (HZ.out.below hb3 HZ.out.lt)
   replace HW := hide (HW.out.trans (hb3.mono HW.out.size))
   clear hb3
   go_wp2_with (first
    | (refine wpList_none_cap rfl rfl ?_; rw [HNN.out])
    | (refine wpList_cap_putAll _ _ rfl rfl rfl HZ.out NN (.slice none 0 0) rfl HN1.out HN2.out rfl ?_; intro w6 hb6 hg6 hs6; replace HZ := hide hb6; replace HW := hide (HW.out.grown hg6 HW.out.size (by intro k hk; simp at hk; omega)); clear hb6 hg6))
   refine bodyPost_ret (results_cap_err rfl _ _ (g + 1) _ _ rfl HZ.out _ rfl) rfl ?_
   exact ⟨_, rfl, by rw [HNL.out]; exact RowB.nil_ _ _, HW.out⟩
theorem ReadOnly_ref (c : CapD) (lit : Value) (w : World) (hwf : c.Wf) (hl : Bs w w.heap.size lit c.lit) (hn : c.lit.length ≤ 1000000) :
 Calls Tryd.prog 38 #[capV c lit] w fun e w' => ∃ l', e = .returned (.tuple #[capV (roF c) l', .int .i64 (roE c)]) ∧ Bs w' w'.heap.size l' (roF c).lit ∧ Below w.heap.size w w' :=
 (ReadOnly_refR c lit w hwf hl hn).mono fun e w' ⟨l', h1, h2, h3⟩ => ⟨l', h1, h2.reads, h3⟩
end Go.Proofs.YthdjgebbjogmiaaDoor
