/- caps.Print: a capability's text, or that there is none. Condition: the library's table is laid; a literal of at most 1000 bytes.
aumbrykeep.Within. No condition.
aumbrylaw13.cut: a capability that is short enough to be played. No condition. -/
import Derived.Test.YthdjgebbjogmiaaDoorCapValid
import Derived.Test.YthdjgebbjogmiaaDoorJoin8
import Derived.LoopIn
import Derived.Deep.DeepCutAuto
import Derived.Test.YthdjgebbjogmiaaDoorBase
import Derived.Test.YthdjgebbjogmiaaDoorRows
import Derived.Test.YthdjgebbjogmiaaDoorJoin2
set_option linter.unusedVariables false
set_option linter.unusedSimpArgs false
namespace Go.Proofs.YthdjgebbjogmiaaDoor
open Go Go.RowKit
set_option linter.unusedVariables false
set_option maxRecDepth 100000

/-- A capability is handed over, and its bytes read. -/
structure CapIn (w : World) (c : CapD) (lit : Value) : Prop extends c.Wf where
 row : Bs w w.heap.size lit c.lit
 small : c.lit.length ≤ 16000
theorem CapIn.v {w : World} {c : CapD} {lit : Value} (h : CapIn w c lit) : CapV c lit := by
 obtain ⟨A, k, hl⟩ := h.row.len
 exact ⟨h.keyL, h.fpL, A, k, hl⟩
theorem itoa_str (n : Nat) (w : World) (ht : Tab w w.heap.size) (hn : n ≤ 9223372036854775807) :
 Calls Tryd.prog 76 #[.int .i64 (n : Int)] w fun e w' => e = .returned (.string (strOfNums (digB n))) ∧ Below w.heap.size w w' :=
 (itoa_any n w w.heap.size ht hn).mono fun e w' ⟨s, he, hs, hb⟩ => ⟨by rw [he, ← hs, strOf_strB], hb⟩
theorem itoa_int (n : Int) (w : World) (ht : Tab w w.heap.size) (h0 : 0 ≤ n) (hn : n ≤ 9223372036854775807) :
 Calls Tryd.prog 76 #[.int .i64 n] w fun e w' => e = .returned (.string (strOfNums (digB n.toNat))) ∧ Below w.heap.size w w' := by
 have := itoa_str n.toNat w ht (by omega)
 rwa [Int.toNat_of_nonneg h0] at this
theorem size_app (a b : ByteArray) : (a ++ b).size = a.size + b.size := by rw [← strB_len, strB_app, List.length_append, strB_len, strB_len]
theorem str_of {s : ByteArray} {xs : List Int} (h : strB s = xs) : s = strOfNums xs := by rw [← h, strOf_strB]
/-- What Print hands back. -/
def printS (c : CapD) : ByteArray := if c.Valid then strOfNums (printF c) else { data := #[] }
def printE (c : CapD) : Int := if c.Valid then 0 else 11
theorem strB_word {k : Nat} (hk : k < 10) : strB (wordS k) = wordL k := strB_of fun x hx => (wordL_ok ⟨k, hk⟩ x hx).2
theorem strB_col : strB { data := #[58] } = [58] := rfl
theorem word_size {k : Nat} (hk : k < 10) : (wordS k).size ≤ 11 := by
 rw [← strB_len, strB_word hk]
 have : ∀ k : Fin 10, (wordL k.val).length ≤ 11 := by decide
 exact this ⟨k, hk⟩

set_option maxHeartbeats 8000000 in
theorem Print_any (c : CapD) (lit : Value) (w : World) (hc : CapIn w c lit) (ht : Tab w w.heap.size) :
 Calls Tryd.prog 59 #[capV c lit] w fun e w' => e = .returned (.tuple #[.string (printS c), .int .i64 (printE c)]) ∧ Below w.heap.size w w' := by
 have HVA := hide (fun w => Valid_any c lit w hc.v)
 obtain ⟨A, k, hl⟩ := hc.row.len
 have H1 := hide hc.keyL
 have H2 := hide hc.fpL
 have HKB := hide hc.keyB
 have HFB := hide hc.fpB
 have HLR := hide hc.row
 have HLB := hide hc.litB
 have HLS := hide hc.small
 have H3 := hide (show lit.oneCell' = true by rw [hl]; rfl)
 have HT := hide ht
 clear hl hc ht
 obtain ⟨CV, HCV⟩ : ∃ x, Hid (capV c lit = x) := ⟨_, hide rfl⟩
 rw [HCV.out] at HVA ⊢
 by_cases hv : c.Valid
 case neg =>
  have HS := hide (show printS c = { data := #[] } from if_neg hv)
  have HE := hide (show printE c = 11 from if_neg hv)
  rw [show decide c.Valid = false from decide_eq_false hv] at HVA
  clear hv
  go_enter Tryd.func59, Tryd.ntmps59
  go_wp2_with (first
   | (refine wpList_cap_new _ rfl (HCV.out.symm) rfl H1.out H2.out H3.out ?_; intro w1 hb1 hw1 hs1; have HB := hide hb1; have HW := hide hw1; clear hb1 hw1)
   | (refine wpList_cap_all _ rfl rfl rfl HB.out ?_; rw [HCV.out])
   | (go_at_call 40; refine (HVA.out _).mono ?_; rintro e w2 ⟨rfl, hb2⟩; have hs2 := hb2.size; replace HW := hide (HW.out.trans (hb2.mono (by omega))); clear hb2))
  go_ret2
  exact ⟨by rw [HS.out, HE.out]; rfl, HW.out⟩
 case pos =>
  have HE := hide (show printE c = 0 from if_pos hv)
  have HPB := hide (printF_bytes hv)
  rw [show decide c.Valid = true from decide_eq_true hv] at HVA
  have hk : 1 ≤ c.kind ∧ c.kind ≤ 9 := by unfold CapD.Valid at hv; omega
  obtain ⟨kn, hkn⟩ : ∃ n : Nat, c.kind = (n : Int) := ⟨c.kind.toNat, by omega⟩
  have hk9 : kn < 10 := by omega
  have HWB := hide (strB_word hk9)
  have HWZ := hide (word_size hk9)
  have HIX := hide (fun w => index_words w kn hk9)
  obtain ⟨WS, HWS⟩ : ∃ x, Hid (wordS kn = x) := ⟨_, hide rfl⟩
  obtain ⟨WV, HWV⟩ : ∃ x, Hid (wordsV = x) := ⟨_, hide rfl⟩
  have HWA := hide (fun w => words_any w)
  rw [HWV.out] at HWA
  rw [HWS.out] at HWB HWZ
  rw [HWS.out, HWV.out] at HIX
  have HBL0 := hide (b32F_len c.lit)
  have HBK0 := hide (b32F_len c.key)
  have HBF0 := hide (b32F_len c.fp)
  obtain ⟨BL, HBL⟩ : ∃ x, Hid (strOfNums (b32F c.lit) = x) := ⟨_, hide rfl⟩
  obtain ⟨BK, HBK⟩ : ∃ x, Hid (strOfNums (b32F c.key) = x) := ⟨_, hide rfl⟩
  obtain ⟨BF, HBF⟩ : ∃ x, Hid (strOfNums (b32F c.fp) = x) := ⟨_, hide rfl⟩
  have zBL : BL.size ≤ 30000 := by rw [← HBL.out, strOfNums_size, HBL0.out]; have := HLS.out; omega
  have zBK : BK.size ≤ 30 := by rw [← HBK.out, strOfNums_size, HBK0.out, H1.out]; omega
  have zBF : BF.size ≤ 60 := by rw [← HBF.out, strOfNums_size, HBF0.out, H2.out]; omega
  have HCL := hide (fun (w' : World) (h : Bs w' w'.heap.size lit c.lit) => Base32_any lit c.lit w' h HLB.out (by have := HLS.out; omega))
  have HCK := hide (fun (w' : World) (h : CapB w' w.heap.size c lit) => Base32_any (.slice (some ⟨w.heap.size, 1, none⟩) 16 16) c.key w' (h.keyRow h.lt) HKB.out (by rw [H1.out]; omega))
  have HCF := hide (fun (w' : World) (h : CapB w' w.heap.size c lit) => Base32_any (.slice (some ⟨w.heap.size, 17, none⟩) 32 32) c.fp w' (h.fpRow h.lt) HFB.out (by rw [H2.out]; omega))
  rw [HBL.out] at HCL
  rw [HBK.out] at HCK
  rw [HBF.out] at HCF
  have zc : ({ data := #[58] } : ByteArray).size = 1 := rfl
  have za : ({ data := #[97, 117, 58] } : ByteArray).size = 3 := rfl
  have zw : WS.size ≤ 11 := HWZ.out
  have HT0 := hide (show strB (({ data := #[97, 117, 58] } : ByteArray) ++ WS ++ ({ data := #[58] } : ByteArray)) = [97, 117, 58] ++ wordL kn ++ [58] by rw [strB_app, strB_app, HWB.out]; rfl)
  have HP := hide (show printS c = strOfNums (printF c) from if_pos hv)
  obtain ⟨KI, hki⟩ : ∃ n, c.kind = n := ⟨_, rfl⟩
  have HKI := hide hki
  go_enter Tryd.func59, Tryd.ntmps59
  go_upto_region 3 with (first
   | (refine wpList_cap_new _ rfl (HCV.out.symm) rfl H1.out H2.out H3.out ?_; intro w1 hb1 hw1 hs1; have HB := hide hb1; have HW := hide hw1; clear hb1 hw1; replace HT := hide ((HT.out.below HW.out (Nat.le_refl _)).more (show w.heap.size ≤ w1.heap.size by omega)))
   | (refine wpList_cap_all _ rfl rfl rfl HB.out ?_; rw [HCV.out])
   | (go_at_call 40; refine (HVA.out _).mono ?_; rintro e w2 ⟨rfl, hb2⟩; have hs2 := hb2.size; replace HB := hide (HB.out.below hb2 HB.out.lt); replace HW := hide (HW.out.trans (hb2.mono (by omega))); replace HT := hide ((HT.out.below hb2 (Nat.le_refl _)).more hs2); clear hb2))
  refine wp_region_quietC (fun w' => Below w2.heap.size w2 w') (by kernel_rfl) (by kernel_rfl) (Below.refl _ _).drew ?_
  refine quiet_call 8 rfl (by kernel_rfl) 74 #[] (fun w' => exec_call _ _ _ rfl _ (by simp [Act.eval]) (by go_simp)) (fun w' hw' => calls_below hw' (HWA.out w')) ?_
  simp only [Act.put, s1_, s2_, s3_]
  refine quiet_val 9 rfl (by kernel_rfl) (fun w' hw' => exec_field _ 0 0 rfl _ rfl rfl) ?_
  simp only [Act.put, s1_, s2_, s3_]
  refine quiet_val 10 rfl (by kernel_rfl) (fun w' hw' => exec_load_one _ _ rfl _ 0 rfl _ Tryd.underlying3 rfl _ ((HB.out.below hw' HB.out.lt).int_ rfl)) ?_
  simp only [Act.put, s1_, s2_, s3_]
  refine quiet_val 11 rfl (by kernel_rfl) (fun w' hw' => exec_index _ _ _ rfl _ _ _ rfl rfl (by rw [hkn]; exact HIX.out w')) ?_
  simp only [Act.put, s1_, s2_, s3_]
  refine quiet_val 12 rfl (by kernel_rfl) (fun w' hw' => exec_add _ _ rfl ({ data := #[97, 117, 58] } : ByteArray) WS rfl rfl (by (try simp only [size_app]); omega)) ?_
  simp only [Act.put, s1_, s2_, s3_]
  refine quiet_val 13 rfl (by kernel_rfl) (fun w' hw' => exec_add _ _ rfl (({ data := #[97, 117, 58] } : ByteArray) ++ WS) ({ data := #[58] } : ByteArray) rfl rfl (by (try simp only [size_app]); omega)) ?_
  simp only [Act.put, s1_, s2_, s3_]
  refine quiet_val 4 rfl (by kernel_rfl) (fun w' hw' => exec_assign _ rfl (.string (({ data := #[97, 117, 58] } : ByteArray) ++ WS ++ ({ data := #[58] } : ByteArray))) rfl) ?_
  simp only [Act.put, s1_, s2_, s3_]
  refine wpQuiet_nil ?_
  intro w3 hb3
  have hs3 := hb3.size
  replace HB := hide (HB.out.below hb3 HB.out.lt)
  replace HW := hide (HW.out.trans (hb3.mono (by omega)))
  replace HT := hide ((HT.out.below hb3 (Nat.le_refl _)).more hs3)
  clear hb3
  obtain ⟨T0, HTT⟩ : ∃ x, Hid ((({ data := #[97, 117, 58] } : ByteArray) ++ WS ++ ({ data := #[58] } : ByteArray)) = x) := ⟨_, hide rfl⟩
  rw [HTT.out] at HT0 ⊢
  have zT : T0.size ≤ 15 := by rw [← HTT.out]; simp only [size_app]; omega
  clear HWA HIX HTT
  by_cases k3 : c.kind = 3
  · have HPF := hide (show T0 ++ BL = printS c by
     rw [HP.out]
     refine str_of (by rw [strB_app, HT0.out, ← HBL.out, strB_of (b32F_bytes _), printF, if_pos k3, hkn]; simp)
     )
    have b3 : (c.kind == 3) = true := by rw [beq_iff_eq]; exact k3
    clear hk hki k3
    go_wp2_with (first
     | (refine wpList_cap_int _ rfl _ rfl rfl HB.out _ rfl ?_)
     | (refine wpList_cap_lit _ rfl rfl rfl HB.out ?_)
     | (go_at_call 75; refine (HCL.out w3 (HLR.out.below HW.out (Nat.le_refl _) |>.more HW.out.size)).mono ?_; rintro e w4 ⟨rfl, hb4⟩; replace HW := hide (HW.out.trans (hb4.mono HW.out.size)); clear hb4))
    go_ret2
    exact ⟨by rw [← HPF.out, HE.out]; rfl, HW.out⟩
  · have b3 : (c.kind == 3) = false := by rw [beq_eq_false_iff_ne]; exact k3
    go_upto_region 6 with (first
     | (refine wpList_cap_int _ rfl _ rfl rfl HB.out _ rfl ?_))
    refine wp_region_quietC (fun w' => Below w3.heap.size w3 w') (by kernel_rfl) (by kernel_rfl) (Below.refl _ _).drew ?_
    refine quiet_val 22 rfl (by kernel_rfl) (fun w' hw' => exec_move _ rfl (.string T0) rfl) ?_
    simp only [Act.put, s1_, s2_, s3_]
    refine quiet_val 23 rfl (by kernel_rfl) (fun w' hw' => exec_field _ 1 1 rfl _ rfl rfl) ?_
    simp only [Act.put, s1_, s2_, s3_]
    refine quiet_val 24 rfl (by kernel_rfl) (fun w' hw' => exec_slice_key _ rfl _ _ rfl) ?_
    simp only [Act.put, s1_, s2_, s3_]
    refine quiet_call 25 rfl (by kernel_rfl) 75 #[.slice (some ⟨w.heap.size, 1, none⟩) 16 16] (fun w' => exec_call _ _ _ rfl _ (by simp [Act.eval]) (by go_simp)) (fun w' hw' => calls_below hw' (HCK.out w' (HB.out.below hw' HB.out.lt))) ?_
    simp only [Act.put, s1_, s2_, s3_]
    refine quiet_val 26 rfl (by kernel_rfl) (fun w' hw' => exec_add _ _ rfl T0 BK rfl rfl (by (try simp only [size_app]); omega)) ?_
    simp only [Act.put, s1_, s2_, s3_]
    refine quiet_val 27 rfl (by kernel_rfl) (fun w' hw' => exec_add _ _ rfl (T0 ++ BK) ({ data := #[58] } : ByteArray) rfl rfl (by (try simp only [size_app]); omega)) ?_
    simp only [Act.put, s1_, s2_, s3_]
    refine quiet_val 28 rfl (by kernel_rfl) (fun w' hw' => exec_field _ 2 17 rfl _ rfl rfl) ?_
    simp only [Act.put, s1_, s2_, s3_]
    refine quiet_val 29 rfl (by kernel_rfl) (fun w' hw' => exec_slice_hash _ rfl _ _ rfl) ?_
    simp only [Act.put, s1_, s2_, s3_]
    refine quiet_call 30 rfl (by kernel_rfl) 75 #[.slice (some ⟨w.heap.size, 17, none⟩) 32 32] (fun w' => exec_call _ _ _ rfl _ (by simp [Act.eval]) (by go_simp)) (fun w' hw' => calls_below hw' (HCF.out w' (HB.out.below hw' HB.out.lt))) ?_
    simp only [Act.put, s1_, s2_, s3_]
    refine quiet_val 31 rfl (by kernel_rfl) (fun w' hw' => exec_add _ _ rfl (T0 ++ BK ++ ({ data := #[58] } : ByteArray)) BF rfl rfl (by (try simp only [size_app]); omega)) ?_
    simp only [Act.put, s1_, s2_, s3_]
    refine quiet_val 4 rfl (by kernel_rfl) (fun w' hw' => exec_assign _ rfl (.string (T0 ++ BK ++ ({ data := #[58] } : ByteArray) ++ BF)) rfl) ?_
    simp only [Act.put, s1_, s2_, s3_]
    refine wpQuiet_nil ?_
    intro w4 hb4
    have hs4 := hb4.size
    replace HB := hide (HB.out.below hb4 HB.out.lt)
    replace HW := hide (HW.out.trans (hb4.mono (by omega)))
    replace HT := hide ((HT.out.below hb4 (Nat.le_refl _)).more hs4)
    clear hb4
    obtain ⟨T1, HTT⟩ : ∃ x, Hid ((T0 ++ BK ++ ({ data := #[58] } : ByteArray) ++ BF) = x) := ⟨_, hide rfl⟩
    have HT1 := hide (show strB T1 = [97, 117, 58] ++ wordL kn ++ [58] ++ b32F c.key ++ [58] ++ b32F c.fp by
     rw [← HTT.out, strB_app, strB_app, strB_app, HT0.out, ← HBK.out, ← HBF.out, strB_of (b32F_bytes _), strB_of (b32F_bytes _)]; rfl)
    rw [HTT.out]
    have zT1 : T1.size ≤ 200 := by rw [← HTT.out]; simp only [size_app]; omega
    clear HTT
    by_cases k2 : c.kind ≤ 2
    case neg =>
     have HPF := hide (show T1 = printS c by
      rw [HP.out]
      refine str_of (by rw [HT1.out, printF, if_neg k3, if_neg k2, hkn]; simp))
     clear k3 hk hki
     go_wp2_with (first
      | (refine wpList_cap_int _ rfl _ rfl rfl HB.out _ rfl ?_))
     go_ret2
     exact ⟨by rw [← HPF.out, HE.out]; rfl, HW.out⟩
    case pos =>
     have hval : 1 ≤ c.K ∧ c.K ≤ c.N ∧ c.N ≤ 16 ∧ 1 ≤ c.S ∧ c.S ≤ 1024 := by unfold CapD.Valid at hv; omega
     obtain ⟨DK, HDK⟩ : ∃ x, Hid (strOfNums (digB c.K.toNat) = x) := ⟨_, hide rfl⟩
     obtain ⟨DN, HDN⟩ : ∃ x, Hid (strOfNums (digB c.N.toNat) = x) := ⟨_, hide rfl⟩
     obtain ⟨DS, HDS⟩ : ∃ x, Hid (strOfNums (digB c.S.toNat) = x) := ⟨_, hide rfl⟩
     have zDK : DK.size ≤ 19 := by rw [← HDK.out, strOfNums_size]; exact digits_bound _ (by omega)
     have zDN : DN.size ≤ 19 := by rw [← HDN.out, strOfNums_size]; exact digits_bound _ (by omega)
     have zDS : DS.size ≤ 19 := by rw [← HDS.out, strOfNums_size]; exact digits_bound _ (by omega)
     have HIK := hide (fun (w' : World) (ht : Tab w' w'.heap.size) => itoa_int c.K w' ht (by omega) (by omega))
     have HIN := hide (fun (w' : World) (ht : Tab w' w'.heap.size) => itoa_int c.N w' ht (by omega) (by omega))
     have HIS := hide (fun (w' : World) (ht : Tab w' w'.heap.size) => itoa_int c.S w' ht (by omega) (by omega))
     rw [HDK.out] at HIK
     rw [HDN.out] at HIN
     rw [HDS.out] at HIS
     have HPF := hide (show T1 ++ ({ data := #[58] } : ByteArray) ++ DK ++ ({ data := #[58] } : ByteArray) ++ DN ++ ({ data := #[58] } : ByteArray) ++ DS = printS c by
      rw [HP.out]
      refine str_of (by rw [strB_app, strB_app, strB_app, strB_app, strB_app, strB_app, HT1.out, ← HDK.out, ← HDN.out, ← HDS.out, strB_of (digB_bytes _), strB_of (digB_bytes _), strB_of (digB_bytes _), strB_col, printF, if_neg k3, if_pos k2, hkn]; simp))
     clear k3 hk hki hval
     go_upto_region 8 with (first
      | (refine wpList_cap_int _ rfl _ rfl rfl HB.out _ rfl ?_))
     refine wp_region_quietC (fun w' => Below w4.heap.size w4 w') (by kernel_rfl) (by kernel_rfl) (Below.refl _ _).drew ?_
     refine quiet_val 35 rfl (by kernel_rfl) (fun w' hw' => exec_move _ rfl (.string T1) rfl) ?_
     simp only [Act.put, s1_, s2_, s3_]
     refine quiet_val 36 rfl (by kernel_rfl) (fun w' hw' => exec_add _ _ rfl T1 ({ data := #[58] } : ByteArray) rfl rfl (by (try simp only [size_app]); omega)) ?_
     simp only [Act.put, s1_, s2_, s3_]
     refine quiet_val 37 rfl (by kernel_rfl) (fun w' hw' => exec_field _ 3 49 rfl _ rfl rfl) ?_
     simp only [Act.put, s1_, s2_, s3_]
     refine quiet_val 38 rfl (by kernel_rfl) (fun w' hw' => exec_load_one _ _ rfl _ 49 rfl _ Tryd.underlying3 rfl _ ((HB.out.below hw' HB.out.lt).int_ rfl)) ?_
     simp only [Act.put, s1_, s2_, s3_]
     refine quiet_call 39 rfl (by kernel_rfl) 76 #[.int .i64 c.K] (fun w' => exec_call _ _ _ rfl _ (by simp [Act.eval]) (by go_simp)) (fun w' hw' => calls_below hw' (HIK.out w' ((HT.out.below hw' (Nat.le_refl _)).more hw'.size))) ?_
     simp only [Act.put, s1_, s2_, s3_]
     refine quiet_val 40 rfl (by kernel_rfl) (fun w' hw' => exec_add _ _ rfl (T1 ++ ({ data := #[58] } : ByteArray)) DK rfl rfl (by (try simp only [size_app]); omega)) ?_
     simp only [Act.put, s1_, s2_, s3_]
     refine quiet_val 41 rfl (by kernel_rfl) (fun w' hw' => exec_add _ _ rfl ((T1 ++ ({ data := #[58] } : ByteArray)) ++ DK) ({ data := #[58] } : ByteArray) rfl rfl (by (try simp only [size_app]); omega)) ?_
     simp only [Act.put, s1_, s2_, s3_]
     refine quiet_val 42 rfl (by kernel_rfl) (fun w' hw' => exec_field _ 4 50 rfl _ rfl rfl) ?_
     simp only [Act.put, s1_, s2_, s3_]
     refine quiet_val 43 rfl (by kernel_rfl) (fun w' hw' => exec_load_one _ _ rfl _ 50 rfl _ Tryd.underlying3 rfl _ ((HB.out.below hw' HB.out.lt).int_ rfl)) ?_
     simp only [Act.put, s1_, s2_, s3_]
     refine quiet_call 44 rfl (by kernel_rfl) 76 #[.int .i64 c.N] (fun w' => exec_call _ _ _ rfl _ (by simp [Act.eval]) (by go_simp)) (fun w' hw' => calls_below hw' (HIN.out w' ((HT.out.below hw' (Nat.le_refl _)).more hw'.size))) ?_
     simp only [Act.put, s1_, s2_, s3_]
     refine quiet_val 45 rfl (by kernel_rfl) (fun w' hw' => exec_add _ _ rfl (((T1 ++ ({ data := #[58] } : ByteArray)) ++ DK) ++ ({ data := #[58] } : ByteArray)) DN rfl rfl (by (try simp only [size_app]); omega)) ?_
     simp only [Act.put, s1_, s2_, s3_]
     refine quiet_val 46 rfl (by kernel_rfl) (fun w' hw' => exec_add _ _ rfl ((((T1 ++ ({ data := #[58] } : ByteArray)) ++ DK) ++ ({ data := #[58] } : ByteArray)) ++ DN) ({ data := #[58] } : ByteArray) rfl rfl (by (try simp only [size_app]); omega)) ?_
     simp only [Act.put, s1_, s2_, s3_]
     refine quiet_val 47 rfl (by kernel_rfl) (fun w' hw' => exec_field _ 5 51 rfl _ rfl rfl) ?_
     simp only [Act.put, s1_, s2_, s3_]
     refine quiet_val 48 rfl (by kernel_rfl) (fun w' hw' => exec_load_one _ _ rfl _ 51 rfl _ Tryd.underlying3 rfl _ ((HB.out.below hw' HB.out.lt).int_ rfl)) ?_
     simp only [Act.put, s1_, s2_, s3_]
     refine quiet_call 49 rfl (by kernel_rfl) 76 #[.int .i64 c.S] (fun w' => exec_call _ _ _ rfl _ (by simp [Act.eval]) (by go_simp)) (fun w' hw' => calls_below hw' (HIS.out w' ((HT.out.below hw' (Nat.le_refl _)).more hw'.size))) ?_
     simp only [Act.put, s1_, s2_, s3_]
     refine quiet_val 50 rfl (by kernel_rfl) (fun w' hw' => exec_add _ _ rfl (((((T1 ++ ({ data := #[58] } : ByteArray)) ++ DK) ++ ({ data := #[58] } : ByteArray)) ++ DN) ++ ({ data := #[58] } : ByteArray)) DS rfl rfl (by (try simp only [size_app]); omega)) ?_
     simp only [Act.put, s1_, s2_, s3_]
     refine quiet_val 4 rfl (by kernel_rfl) (fun w' hw' => exec_assign _ rfl (.string ((((((T1 ++ ({ data := #[58] } : ByteArray)) ++ DK) ++ ({ data := #[58] } : ByteArray)) ++ DN) ++ ({ data := #[58] } : ByteArray)) ++ DS)) rfl) ?_
     simp only [Act.put, s1_, s2_, s3_]
     refine wpQuiet_nil ?_
     intro w5 hb5
     have hs5 := hb5.size
     replace HB := hide (HB.out.below hb5 HB.out.lt)
     replace HW := hide (HW.out.trans (hb5.mono (by omega)))
     replace HT := hide ((HT.out.below hb5 (Nat.le_refl _)).more hs5)
     clear hb5
     rw [HPF.out]
     go_wp2_with fail
     go_ret2
     exact ⟨by rw [HE.out]; rfl, HW.out⟩
end Go.Proofs.YthdjgebbjogmiaaDoor

namespace Go.Proofs.YthdjgebbjogmiaaDoor
open Go Go.RowKit
set_option maxRecDepth 100000

/-- Any number as one from 0 to n - 1. -/
def within (v n : Int) : Int := if n < 1 then 0 else v % n

theorem tmod_bounds (v n : Int) (hn : ¬ n < 1) : -n < v.tmod n ∧ v.tmod n < n := by
 have h := Int.tmod_lt_of_pos v (show 0 < n by omega)
 have h' := Int.tmod_lt_of_pos (-v) (show 0 < n by omega)
 rw [Int.neg_tmod] at h'
 exact ⟨by omega, h⟩
theorem tmod_within (v n : Int) (hn : ¬ n < 1) : within v n = if v.tmod n < 0 then v.tmod n + n else v.tmod n := by
 obtain ⟨h1, h2⟩ := tmod_bounds v n hn
 have e : v % n = v.tmod n % n := by
  conv => lhs; rw [← Int.tmod_add_mul_tdiv v n]
  rw [Int.add_mul_emod_self_left]
 unfold within
 rw [if_neg hn, e]
 split
 · rw [← Int.add_emod_right, Int.emod_eq_of_lt (by omega) (by omega)]
 · rw [Int.emod_eq_of_lt (by omega) (by omega)]

set_option maxHeartbeats 400000 in
theorem within_any (v n : Int) (w : World) (h1 : -9223372036854775808 ≤ v) (h2 : v ≤ 9223372036854775807) (h4 : n ≤ 9223372036854775807) :
 Calls Tryd.prog 18 #[.int .i64 v, .int .i64 n] w fun e w' => e = .returned (.int .i64 (within v n)) ∧ w = w' := by
 go_enter Tryd.func18, Tryd.ntmps18
 by_cases hn : n < 1
 · go_wp2
   go_ret
   exact ⟨by simp [within, hn], rfl⟩
 · obtain ⟨h5, h6⟩ := tmod_bounds v n hn
   have H := hide (tmod_within v n hn)
   go_wp2
   · go_ret
     exact ⟨by rw [H.out, if_pos (by assumption)]; rfl, rfl⟩
   · go_ret
     have : 0 ≤ v.tmod n := by assumption
     exact ⟨by rw [H.out, if_neg (by omega)]; rfl, rfl⟩

end Go.Proofs.YthdjgebbjogmiaaDoor

namespace Go.Proofs.YthdjgebbjogmiaaDoor
open Go Go.RowKit
set_option linter.unusedVariables false
set_option maxRecDepth 100000

end Go.Proofs.YthdjgebbjogmiaaDoor
