/- aes.expand, walked.
aumbryref01.expand, walked. -/
import Derived.Test.YthdjgebbjogmiaaDoorJoin14
import Derived.LoopIn
import Derived.Deep.RegionHeld3
import Derived.Deep.DeepCutAuto
set_option linter.unusedVariables false
set_option linter.unusedSimpArgs false
namespace Go.Proofs.YthdjgebbjogmiaaDoor
open Go Go.RowKit
set_option maxRecDepth 100000

set_option maxRecDepth 100000 in
set_option maxHeartbeats 4000000 in
theorem expand_any (T key : List Int) (tb : Nat) (w : World) (hT : byteL T) (hk : key.length = 16) (bk : Bytes key) (hb : Blk w tb 88 (u8s T)) (htb : tb < w.heap.size) :
 Calls Tryd.prog 90 #[.agg (u8s key).toArray, .pointer (some ⟨tb, 0, none⟩)] w fun e w' => e = .returned (.agg (u8s (aesKeyF T key)).toArray) ∧ Below w.heap.size w w' := by
 have HT := hide hT
 have HK := hide hk
 have HBK := hide bk
 have HB := hide hb
 have HI16 := hide (show (Tryd.prog.info? 22).map (·.size) = some (u8s key).length by rw [u8s_len, hk]; exact size16)
 have HIK := hide (show (Tryd.prog.info? 23).map (·.size) = some (u8s key).length by rw [u8s_len, hk]; kernel_rfl)
 clear hT hk bk hb
 go_enter Tryd.func90, Tryd.ntmps90
 have tokA : True := trivial
 have tokB : True := trivial
 go_wp2_with (first | (have tok2 := tokA; refine wpList_alloc_blk rfl 90 rfl _ zero176 ?_; intro w1 b1 hb1 hs1; have BK1 := hide ((Blk.new w 23 (u8s key)).below hb1 (by simp)); have B1 := hide b1; have HB1 := hide (((Below.refl w.heap.size w).alloc (Nat.le_refl _) (.cells (u8s key).toArray 23)).trans (hb1.mono (by simp))); have hs1' : w1.heap.size = w.heap.size + 2 := (by rw [hs1]; simp); clear tokA tok2 b1 hb1 hs1) | (have tok2 := tokB; refine wpList_alloc_blk rfl 90 rfl _ zero176 ?_; intro w2 b2 hb2 hs2; have BK := hide (BK1.out.below hb2 (by omega)); have B1' := hide (show Blk w2 (w.heap.size + 1) 90 (u8s (List.replicate 176 0)) by (simpa using B1.out.below hb2 (by simp; omega))); have B2 := hide (show Blk w2 (w.heap.size + 2) 90 (u8s (List.replicate 176 0)) by (rw [← hs1']; exact b2)); have HB2 := hide (HB1.out.trans (hb2.mono (by omega))); clear tokB tok2 b2 BK1 B1 HB1 hb2) | (refine wpList_load_blk rfl 23 _ rfl _ rfl _ _ BK.out 16 5 rfl HIK.out ?_) | (refine wpList_store_blk rfl 22 _ _ rfl _ 0 (u8s key) rfl rfl _ _ B2.out (by rw [u8s_len, u8s_len, HK.out]; simp) HI16.out (u8s_one _) ?_; intro w3 hB3 hg3 hs3; rw [keyZ_lset HK.out] at hB3))
 have hsw : w3.heap.size = w.heap.size + 3 := by omega
 have HS := hide hsw
 have BT := hide (((HB.out.below HB2.out htb)).grown hg3 (by simp <;> omega))
 have BO := hide (B1'.out.grown hg3 (by simp <;> omega))
 have BS := hide hB3
 have HBw := hide (HB2.out.grown hg3 HB2.out.size (by intro k hk; simp at hk; omega))
 clear hB3 hg3 hs3 hs2 hs1' hsw
 obtain ⟨ks0, HZ⟩ : ∃ ks0, Hid (keyZ key = ks0) := ⟨_, hide rfl⟩
 have HZL := hide (show ks0.length = 176 by rw [← HZ.out]; exact keyZ_len HK.out)
 have HZB := hide (show Bytes ks0 by rw [← HZ.out]; exact keyZ_bytes HBK.out)
 rw [HZ.out] at BS
 go_loopw [6, 7] (fun vc vr wr => ∃ r : Nat, r ≤ 10 ∧ vr = .int .i64 ((r + 1 : Nat) : Int) ∧ vc = .int .u8 (keyR T ks0 r).1 ∧ Blk wr (w.heap.size + 1) 90 (u8s (List.replicate 176 0)) ∧ Blk wr (w.heap.size + 2) 90 (u8s (keyR T ks0 r).2) ∧ Blk wr tb 88 (u8s T) ∧ Below w.heap.size w wr ∧ w.heap.size + 3 ≤ wr.heap.size) (fun _ vr _ => (11 - intOf vr).toNat)
 case atStart => exact ⟨0, by omega, rfl, rfl, BO.out, BS.out, BT.out, HBw.out, by rw [HS.out]; exact Nat.le_refl _⟩
 case round =>
  clear BO BS BT HBw HS BK B1' B2 HB2
  obtain ⟨r, hr, rfl, rfl, bo, bs, bt, hbel, hsz⟩ := hrel
  obtain ⟨⟨c0, c1⟩, kl, kb⟩ := keyR_ok (show Bytes T from HT.out.2) HZL.out HZB.out r
  have HN := hide (show keyR T ks0 (r + 1) = (tw (keyR T ks0 r).1, keyI (rowAt (keyR T ks0 r).2 r) (colF T (rowAt (keyR T ks0 r).2 r) (keyR T ks0 r).1) (r + 1) (keyR T ks0 r).2 16) from rfl)
  obtain ⟨rc, HRC⟩ : ∃ x, Hid ((keyR T ks0 r).1 = x) := ⟨_, hide rfl⟩
  obtain ⟨ks, HKS⟩ : ∃ x, Hid ((keyR T ks0 r).2 = x) := ⟨_, hide rfl⟩
  rw [HRC.out, HKS.out] at HN
  rw [HRC.out] at c0 c1
  rw [HKS.out] at bs kl kb
  rw [HRC.out]
  have BO := hide bo
  have BS := hide bs
  have BT := hide bt
  have HBw := hide hbel
  have HKL := hide kl
  have HKB := hide kb
  clear bo bs bt hbel kl kb
  by_cases hrt : r < 10
  · have HRow := hide (row_range BS.out r)
    have HPL := hide (rowAt_len HKL.out r (by omega))
    have HPB := hide (rowAt_bytes HKB.out r)
    obtain ⟨P, HP⟩ : ∃ P, Hid (rowAt ks r = P) := ⟨_, hide rfl⟩
    rw [HP.out] at HRow HPL HPB HN
    have HIP := hide (show (Tryd.prog.info? 22).map (·.size) = some (u8s P).length by rw [u8s_len, HPL.out]; exact size16)
    have tokC : True := trivial
    go_wp2_with (first | (refine wpList_load_mid rfl 22 _ rfl _ _ rfl (u8s P) _ HRow.out rfl rfl HIP.out ?_) | (have tok2 := tokC; refine wpList_alloc_blk rfl 22 rfl _ zero16 ?_; intro wa ba hba hsa; have BA := hide ba; have HBA := hide hba; have HSA := hide hsa; clear tokC tok2 ba hba hsa) | (refine wpList_store_blk rfl 22 _ _ rfl _ 0 (u8s P) rfl rfl _ _ BA.out (by rw [u8s_len, u8s_len, HPL.out]; simp) HIP.out (u8s_one _) ?_; intro wb hbb hgb hsb; rw [lset_all _ _ (by rw [u8s_len, u8s_len, HPL.out]; simp)] at hbb; have BB := hide hbb; have HGB := hide hgb; have HSB := hide hsb; clear hbb hgb hsb))
    have BTb := hide ((BT.out.below HBA.out (by omega)).grown HGB.out (by simp <;> omega))
    have BOb := hide ((BO.out.below HBA.out (by omega)).grown HGB.out (by simp <;> omega))
    have BSb := hide ((BS.out.below HBA.out (by omega)).grown HGB.out (by simp <;> omega))
    have HBb := hide ((HBw.out.trans (HBA.out.mono (by omega))).grown HGB.out (HBw.out.trans (HBA.out.mono (by omega))).size (by intro k hk; simp at hk; omega))
    have hszb : wr.heap.size + 1 = wb.heap.size := by rw [HSB.out, HSA.out]
    clear BT BO BS HBw HBA HGB HSB HSA BA HRow
    have HPB' : ∀ j, 0 ≤ P.getD j 0 ∧ P.getD j 0 < 256 := fun j => by rw [← HP.out]; exact (rowAt_bytes HKB.out r).getD j
    obtain ⟨q12, HQ12⟩ : ∃ x, Hid (P.getD 12 0 = x) := ⟨_, hide rfl⟩
    obtain ⟨q13, HQ13⟩ : ∃ x, Hid (P.getD 13 0 = x) := ⟨_, hide rfl⟩
    obtain ⟨q14, HQ14⟩ : ∃ x, Hid (P.getD 14 0 = x) := ⟨_, hide rfl⟩
    obtain ⟨q15, HQ15⟩ : ∃ x, Hid (P.getD 15 0 = x) := ⟨_, hide rfl⟩
    obtain ⟨a12, b12⟩ := HQ12.out ▸ HPB' 12
    obtain ⟨a13, b13⟩ := HQ13.out ▸ HPB' 13
    obtain ⟨a14, b14⟩ := HQ14.out ▸ HPB' 14
    obtain ⟨a15, b15⟩ := HQ15.out ▸ HPB' 15
    clear HPB'
    have d12 := blk_get BB.out 12 q12 (by rw [HPL.out]; omega) HQ12.out
    have d13 := blk_get BB.out 13 q13 (by rw [HPL.out]; omega) HQ13.out
    have d14 := blk_get BB.out 14 q14 (by rw [HPL.out]; omega) HQ14.out
    have d15 := blk_get BB.out 15 q15 (by rw [HPL.out]; omega) HQ15.out
    obtain ⟨t12, HT12⟩ : ∃ x, Hid (T.getD q12.toNat 0 = x) := ⟨_, hide rfl⟩
    obtain ⟨t13, HT13⟩ : ∃ x, Hid (T.getD q13.toNat 0 = x) := ⟨_, hide rfl⟩
    obtain ⟨t14, HT14⟩ : ∃ x, Hid (T.getD q14.toNat 0 = x) := ⟨_, hide rfl⟩
    obtain ⟨t15, HT15⟩ : ∃ x, Hid (T.getD q15.toNat 0 = x) := ⟨_, hide rfl⟩
    have e12 := blk_get BTb.out q12.toNat t12 (by rw [HT.out.1]; omega) HT12.out
    have e13 := blk_get BTb.out q13.toNat t13 (by rw [HT.out.1]; omega) HT13.out
    have e14 := blk_get BTb.out q14.toNat t14 (by rw [HT.out.1]; omega) HT14.out
    have e15 := blk_get BTb.out q15.toNat t15 (by rw [HT.out.1]; omega) HT15.out
    obtain ⟨x13, hx13⟩ : ∃ x, bits .xor .u8 t13 rc = x := ⟨_, rfl⟩
    have htb2 : tb < wb.heap.size := by omega
    have hlt2 : wr.heap.size < wb.heap.size := by omega
    go_region_held3 (fun w' => w'.cell? ⟨wr.heap.size, 12, none⟩ = some (.int .u8 q12) ∧ w'.cell? ⟨wr.heap.size, 13, none⟩ = some (.int .u8 q13) ∧ w'.cell? ⟨wr.heap.size, 14, none⟩ = some (.int .u8 q14) ∧ w'.cell? ⟨wr.heap.size, 15, none⟩ = some (.int .u8 q15) ∧ w'.cell? ⟨tb, q12.toNat, none⟩ = some (.int .u8 t12) ∧ w'.cell? ⟨tb, q13.toNat, none⟩ = some (.int .u8 t13) ∧ w'.cell? ⟨tb, q14.toNat, none⟩ = some (.int .u8 t14) ∧ w'.cell? ⟨tb, q15.toNat, none⟩ = some (.int .u8 t15)) (simp [go_sem, World.cell?_alloc_lt, *]) (fail)
    have HC := hide (show colF T P rc = [x13, t14, t15, t12] by unfold colF X8; rw [HQ12.out, HQ13.out, HQ14.out, HQ15.out, HT12.out, HT13.out, HT14.out, HT15.out, hx13])
    obtain ⟨c, HCC⟩ : ∃ c, Hid (colF T P rc = c) := ⟨_, hide rfl⟩
    have HCL := hide (show c.length = 4 by rw [← HCC.out]; rfl)
    have HCB := hide (show Bytes c by rw [← HCC.out]; exact colF_bytes HT.out.2 ⟨c0, c1⟩)
    have BC := hide (show Blk (wb.alloc (.cells #[.int .u8 x13, .int .u8 t14, .int .u8 t15, .int .u8 t12] 109)).drew wb.heap.size 109 (u8s c) by rw [← HCC.out, HC.out]; exact (Blk.new wb 109 (u8s [x13, t14, t15, t12])).drew)
    have BPc := hide ((BB.out.alloc (.cells #[.int .u8 x13, .int .u8 t14, .int .u8 t15, .int .u8 t12] 109)).drew)
    have BTc := hide ((BTb.out.alloc (.cells #[.int .u8 x13, .int .u8 t14, .int .u8 t15, .int .u8 t12] 109)).drew)
    have BOc := hide ((BOb.out.alloc (.cells #[.int .u8 x13, .int .u8 t14, .int .u8 t15, .int .u8 t12] 109)).drew)
    have BSc := hide ((BSb.out.alloc (.cells #[.int .u8 x13, .int .u8 t14, .int .u8 t15, .int .u8 t12] 109)).drew)
    have HBc := hide ((HBb.out.alloc HBb.out.size (.cells #[.int .u8 x13, .int .u8 t14, .int .u8 t15, .int .u8 t12] 109)).drew)
    have HSc := hide (show (wb.alloc (.cells #[.int .u8 x13, .int .u8 t14, .int .u8 t15, .int .u8 t12] 109)).drew.heap.size = wb.heap.size + 1 by simp [World.drew])
    rw [HCC.out] at HN
    clear d12 d13 d14 d15 e12 e13 e14 e15 HQ12 HQ13 HQ14 HQ15 HT12 HT13 HT14 HT15 a12 b12 a13 b13 a14 b14 a15 b15 HC HCC BB BTb BOb BSb HBb
    obtain ⟨wc, HWC⟩ : ∃ wc, Hid ((wb.alloc (.cells #[.int .u8 x13, .int .u8 t14, .int .u8 t15, .int .u8 t12] 109)).drew = wc) := ⟨_, hide rfl⟩
    rw [HWC.out] at BC BPc BTc BOc BSc HBc HSc
    rw [HWC.out]
    obtain ⟨bp, HBP⟩ : ∃ bp, Hid (wr.heap.size = bp) := ⟨_, hide rfl⟩
    obtain ⟨bc, HBC⟩ : ∃ bc, Hid (wb.heap.size = bc) := ⟨_, hide rfl⟩
    rw [HBP.out] at BPc hsz hszb hlt2
    rw [HBC.out] at BC hszb hlt2 htb2 HSc
    rw [HBP.out, HBC.out]
    clear HWC hx13
    go_wp2_with fail
    go_loopw [48] (fun vi wq => ∃ i : Nat, i ≤ 16 ∧ vi = .int .i64 i ∧ Blk wq (w.heap.size + 1) 90 (u8s (List.replicate 176 0)) ∧ Blk wq (w.heap.size + 2) 90 (u8s (keyI P c (r + 1) ks i)) ∧ Blk wq bp 22 (u8s P) ∧ Blk wq bc 109 (u8s c) ∧ Blk wq tb 88 (u8s T) ∧ Below w.heap.size w wq ∧ wq.heap.size = bc + 1) (fun vi _ => (16 - intOf vi).toNat)
    case atStart => exact ⟨0, by omega, rfl, BOc.out, BSc.out, BPc.out, BC.out, BTc.out, HBc.out, HSc.out⟩
    case round =>
     clear BOc BSc BPc BC BTc HBc HSc
     obtain ⟨i, hi, rfl, bo, bs, bp', bc', bt, hbel, hsq⟩ := hrel
     have BO := hide bo
     have BS := hide bs
     have BP := hide bp'
     have BC := hide bc'
     have BT := hide bt
     have HBq := hide hbel
     have HSQ := hide hsq
     clear bo bs bp' bc' bt hbel hsq
     have HKI := hide (keyI_len P c (r + 1) ks i)
     obtain ⟨kk, HKK⟩ : ∃ kk, Hid (keyI P c (r + 1) ks i = kk) := ⟨_, hide rfl⟩
     have HKKL := hide (show kk.length = 176 by rw [← HKK.out, HKI.out, HKL.out])
     have HKN := hide (show keyI P c (r + 1) ks (i + 1) = kk.set ((r + 1) * 16 + i) (X8 (P.getD i 0) (if i < 4 then c.getD i 0 else kk.getD ((r + 1) * 16 + i - 4) 0)) by rw [← HKK.out]; rfl)
     rw [HKK.out] at BS
     have i0 : (0 : Int) ≤ (i : Int) := by omega
     by_cases hit : i < 16
     · have i1 : (i : Int) < 16 := by omega
       obtain ⟨p, HPi⟩ : ∃ p, Hid (P.getD i 0 = p) := ⟨_, hide rfl⟩
       have cp := blk_get BP.out i p (by rw [HPL.out]; exact hit) HPi.out
       obtain ⟨old, cs⟩ : ∃ old, wr.cell? ⟨w.heap.size + 2, (r + 1) * 16 + i, none⟩ = some old := ⟨_, blk_get BS.out _ _ (by rw [HKKL.out]; omega) rfl⟩
       have fs := BS.out.frozen ((r + 1) * 16 + i)
       have r1 : (0 : Int) ≤ (r : Int) + 1 := by omega
       have r2 : (r : Int) + 1 < 11 := by omega
       by_cases hi4 : i < 4
       · have i4 : (i : Int) < 4 := by omega
         obtain ⟨q, HCi⟩ : ∃ q, Hid (c.getD i 0 = q) := ⟨_, hide rfl⟩
         have cc := blk_get BC.out i q (by rw [HCL.out]; exact hi4) HCi.out
         go_wp2_with fail
         go_region
         all_goals
          go_wp2_with fail
          go_roundw
          case measure => simp [intOf]; omega
          case rel =>
           have e1 : (i : Int) + 1 = ((i + 1 : Nat) : Int) := by omega
           refine ⟨i + 1, by omega, by rw [e1], (BO.out.far (p := ⟨w.heap.size + 2, (r + 1) * 16 + i, none⟩) (by simp) _).drew, ?_, (BP.out.far (p := ⟨w.heap.size + 2, (r + 1) * 16 + i, none⟩) (by simp; omega) _).drew, (BC.out.far (p := ⟨w.heap.size + 2, (r + 1) * 16 + i, none⟩) (by simp; omega) _).drew, (BT.out.far (p := ⟨w.heap.size + 2, (r + 1) * 16 + i, none⟩) (by simp; omega) _).drew, (HBq.out.setCell (p := ⟨w.heap.size + 2, (r + 1) * 16 + i, none⟩) (by simp) _).drew, by simp [World.drew, World.setCell]; exact HSQ.out⟩
           rw [HKN.out, if_pos hi4, HPi.out, HCi.out]
           exact (blk_set BS.out _ _).drew
       · have i4 : (4 : Int) ≤ (i : Int) := by omega
         obtain ⟨q, HCi⟩ : ∃ q, Hid (kk.getD ((r + 1) * 16 + i - 4) 0 = q) := ⟨_, hide rfl⟩
         have cc := blk_get BS.out ((r + 1) * 16 + (i - 4)) q (by rw [HKKL.out]; omega) (by rw [← HCi.out]; congr 1; omega)
         have hm : ((i : Int) - 4).toNat = i - 4 := by omega
         go_wp2_with fail
         go_region
         all_goals
          go_wp2_with fail
          go_roundw
          case measure => simp [intOf]; omega
          case rel =>
           have e1 : (i : Int) + 1 = ((i + 1 : Nat) : Int) := by omega
           refine ⟨i + 1, by omega, by rw [e1], (BO.out.far (p := ⟨w.heap.size + 2, (r + 1) * 16 + i, none⟩) (by simp) _).drew, ?_, (BP.out.far (p := ⟨w.heap.size + 2, (r + 1) * 16 + i, none⟩) (by simp; omega) _).drew, (BC.out.far (p := ⟨w.heap.size + 2, (r + 1) * 16 + i, none⟩) (by simp; omega) _).drew, (BT.out.far (p := ⟨w.heap.size + 2, (r + 1) * 16 + i, none⟩) (by simp; omega) _).drew, (HBq.out.setCell (p := ⟨w.heap.size + 2, (r + 1) * 16 + i, none⟩) (by simp) _).drew, by simp [World.drew, World.setCell]; exact HSQ.out⟩
           rw [HKN.out, if_neg (by omega), HPi.out, HCi.out]
           exact (blk_set BS.out _ _).drew
     · have HI16' := hide (show i = 16 by omega)
       have hi16 : ¬ (i : Int) < 16 := by omega
       have HN2 := hide (show (keyR T ks0 (r + 1)).2 = kk by rw [HN.out, ← HKK.out, HI16'.out])
       have HN1 := hide (show (keyR T ks0 (r + 1)).1 = tw rc by rw [HN.out])
       have HE1 := hide (show (r : Int) + 1 + 1 = ((r + 1 + 1 : Nat) : Int) by omega)
       have HSZ := hide (show w.heap.size + 3 ≤ wr.heap.size by rw [HSQ.out]; omega)
       clear HN HKK HKN HKI HSQ HI16'
       go_wp2_with (go_at_call 96; refine (twice_any rc _ c0 c1).mono ?_; rintro e w' ⟨rfl, rfl⟩)
       go_roundw
       case measure => simp [intOf]; omega
       case rel => exact ⟨r + 1, by omega, by rw [HE1.out], by rw [HN1.out], BO.out, by rw [HN2.out]; exact BS.out, BT.out, HBq.out, HSZ.out⟩
  · have HRT := hide (show r = 10 by omega)
    have HI := hide (show (Tryd.prog.info? 90).map (·.size) = some (u8s ks).length by rw [u8s_len, HKL.out]; exact size176)
    clear HRC HN
    go_wp2_with (first | (refine wpList_load_blk rfl 90 _ rfl _ rfl _ _ BS.out 11 22 rfl HI.out ?_) | (refine wpList_store_blk rfl 90 _ _ rfl _ 0 (u8s ks) rfl rfl _ _ BO.out (by rw [u8s_len, u8s_len, HKL.out]; simp) HI.out (u8s_one _) ?_; intro w3 hB hg hs))
    have hB2 : Blk w3 (w.heap.size + 1) 90 (u8s ks) := by rw [lset_all _ _ (by rw [u8s_len, u8s_len, HKL.out]; simp)] at hB; exact hB
    refine bodyPost_ret (v := .agg (u8s ks).toArray) (results_cell_row rfl _ _ (w.heap.size + 1) 90 _ (0, 0) _ rfl hB2 rfl rfl (by simpa using HI.out)) rfl ⟨by rw [aesKeyF_at, HZ.out, ← HKS.out, HRT.out], HBw.out.grown hg HBw.out.size (by intro k hk; simp at hk; omega)⟩
end Go.Proofs.YthdjgebbjogmiaaDoor

namespace Go.Proofs.YthdjgebbjogmiaaDoor
open Go Go.RowKit
set_option maxRecDepth 100000

end Go.Proofs.YthdjgebbjogmiaaDoor
