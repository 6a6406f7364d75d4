/- P3.1: what is added to bytes is added to what they are streamed to; noughts tell the stream itself. No condition. -/
import Derived.Test.YtoicohcomjnnfaaFrameArr
import Derived.Test.YtoicohcomjnnfaaFrameBytes
import Derived.Test.YtoicohcomjnnfaaWakes03
import Derived.Test.YtoicohcomjnnfaaStream
import Derived.Test.YtoicohcomjnnfaaStreamLaw2
import Derived.Test.YtoicohcomjnnfaaKeep
import Derived.Test.YtoicohcomjnnfaaSmall
import Derived.Test.YtoicohcomjnnfaaMakeD
import Derived.Test.YtoicohcomjnnfaaTakeD
import Derived.BigQuiet
import Derived.BigRegion
namespace Go.Proofs.Ytoicohcomjnnfaa.LawAesSums
open Go Go.RowKit Go.ChangeShapes Go.WideShapes Go.ChangeAt Go.Proofs.Ytoicohcomjnnfaa
set_option linter.unusedVariables false

theorem xorF_bytes' {p q : List Int} (hp : Bytes p) (hq : Bytes q) : Bytes (xorF p q) := fun x hx => by
  obtain ⟨i, hi, rfl⟩ := List.mem_iff_getElem.1 hx
  simp [xorF] at hi
  simp only [xorF, List.getElem_zipWith]
  exact x8_byte (hp _ (List.getElem_mem _)) (hq _ (List.getElem_mem _))

theorem x8_swap {a b c : Int} (ha : 0 ≤ a ∧ a < 256) (hb : 0 ≤ b ∧ b < 256) (hc : 0 ≤ c ∧ c < 256) : X8 (X8 a c) b = X8 (X8 a b) c := by
  obtain ⟨a, rfl⟩ := Int.eq_ofNat_of_zero_le ha.1
  obtain ⟨b, rfl⟩ := Int.eq_ofNat_of_zero_le hb.1
  obtain ⟨c, rfl⟩ := Int.eq_ofNat_of_zero_le hc.1
  have l1 : a ^^^ c < 2 ^ 8 := Nat.xor_lt_two_pow (by omega) (by omega)
  have l2 : a ^^^ b < 2 ^ 8 := Nat.xor_lt_two_pow (by omega) (by omega)
  rw [x8_nat a c (by omega) (by omega), x8_nat a b (by omega) (by omega), x8_nat _ b (by omega) (by omega), x8_nat _ c (by omega) (by omega), Nat.xor_assoc, Nat.xor_comm c b, ← Nat.xor_assoc]
theorem x8_nought {a c : Int} (ha : 0 ≤ a ∧ a < 256) (hc : 0 ≤ c ∧ c < 256) : X8 (X8 0 c) a = X8 a c := by
  obtain ⟨a, rfl⟩ := Int.eq_ofNat_of_zero_le ha.1
  obtain ⟨c, rfl⟩ := Int.eq_ofNat_of_zero_le hc.1
  have e := x8_nat 0 c (by omega) (by omega)
  rw [show ((0 : Nat) : Int) = 0 from rfl] at e
  rw [e, Nat.zero_xor, x8_nat c a (by omega) (by omega), x8_nat a c (by omega) (by omega), Nat.xor_comm]

set_option maxHeartbeats 4000000 in
theorem walk (w : World) (key : List Int) (hk : key.length = 16) (bk : Bytes key) (at_ : Int) (hat : In64 at_) (va : Value) (a : List Int) (hva : Bs w w.heap.size va a) (hba : Bytes a) (vb : Value) (b : List Int) (hvb : Bs w w.heap.size vb b) (hbb : Bytes b) :
    Calls Try.prog 10 #[.agg (u8s key).toArray, .int .i64 at_, va, vb] w fun e w' => e = .returned (.bool true) ∧ Below w.heap.size w w' := by
  have HC0 := fun (at_ : Int) (b : List Int) (v : Value) (w : World) => Stream_blk key b at_ v w hk bk
  have HT := hide tab_bytes
  obtain ⟨T, HTT⟩ : ∃ T, Hid (boxTab = T) := ⟨_, hide rfl⟩
  have HKL := hide (ExpandF_len hk bk)
  have HKB := hide (ExpandF_bytes hk bk)
  obtain ⟨ks, HKS⟩ : ∃ T, Hid (ExpandF key = T) := ⟨_, hide rfl⟩
  rw [HTT.out] at HT HC0
  rw [HKS.out] at HKL HKB HC0
  have HC := hide HC0
  have HIK := hide (show (Try.prog.info? 43).map (·.size) = some (u8s key).length by rw [u8s_len, hk]; kernel_rfl)
  have HBA := hide hba
  have HBB := hide hbb
  obtain ⟨ha1, ha2⟩ := hat
  obtain ⟨wb, HW⟩ : ∃ wb, Hid (w.alloc (.cells (u8s key).toArray 43) = wb) := ⟨_, hide rfl⟩
  have B1 := hide (show Blk wb w.heap.size 43 (u8s key) by rw [← HW.out]; exact Blk.new w 43 (u8s key))
  have HB := hide (show Below w.heap.size w wb by rw [← HW.out]; exact (Below.refl w.heap.size w).alloc (Nat.le_refl _) _)
  have HVA := hide (hva.below HB.out (Nat.le_refl _))
  have HVB := hide (hvb.below HB.out (Nat.le_refl _))
  obtain ⟨A, cA, rfl, ha1', ha2', has⟩ := hva.open_
  obtain ⟨B, cB, rfl, hb1', hb2', hbs⟩ := hvb.open_
  unfold maxLen at ha2' hb2'
  obtain ⟨NA, HNA⟩ : ∃ n, Hid (a.length = n) := ⟨_, hide rfl⟩
  obtain ⟨NB, HNB⟩ : ∃ n, Hid (b.length = n) := ⟨_, hide rfl⟩
  rw [HNA.out] at ha1' HVA
  rw [HNB.out] at hb1' HVB
  rw [HNA.out, HNB.out]
  clear has hbs hk bk hva hvb hba hbb HC0 HTT HKS
  go_enter Try.func10, Try.ntmps10
  go_upto_region 2 with fail
  obtain ⟨n, EN, hnA, hnB, hn1⟩ : ∃ n : Nat, (if (100 : Int) < if NB < NA then (NB : Int) else (NA : Int) then (100 : Int) else if NB < NA then (NB : Int) else (NA : Int)) = (n : Int) ∧ n ≤ NA ∧ n ≤ NB ∧ n ≤ 100 := by
    by_cases h1 : NB < NA
    · by_cases h2 : (100 : Int) < NB
      · exact ⟨100, by rw [if_pos h1, if_pos h2]; rfl, by omega, by omega, by omega⟩
      · exact ⟨NB, by rw [if_pos h1, if_neg h2], by omega, by omega, by omega⟩
    · by_cases h2 : (100 : Int) < NA
      · exact ⟨100, by rw [if_neg h1, if_pos h2]; rfl, by omega, by omega, by omega⟩
      · exact ⟨NA, by rw [if_neg h1, if_neg h2], by omega, by omega, by omega⟩
  rw [EN]
  clear EN
  rw [HW.out]
  clear HW
  have HS1 := hide (HVA.out.sliced 0 n (by omega) (by rw [HNA.out]; exact hnA))
  have HS2 := hide (HVB.out.sliced 0 n (by omega) (by rw [HNB.out]; exact hnB))
  rw [List.drop_zero, Nat.sub_zero] at HS1 HS2
  have i0 : (0 : Int) ≤ (n : Int) := by omega
  have i1 : (n : Int) ≤ (cA : Int) := by omega
  have i2 : (n : Int) ≤ (cB : Int) := by omega
  go_quiet ((refine (within_any at_ 500 _ ha1 ha2 (by omega)).mono ?_; rintro e w' ⟨rfl, rfl⟩; exact ⟨rfl, _, rfl⟩))
  have HP := hide (HVA.out.take n (by rw [HNA.out]; exact hnA))
  have HQ := hide (HVB.out.take n (by rw [HNB.out]; exact hnB))
  have HPL := hide (show (a.take n).length = n by rw [List.length_take, HNA.out]; omega)
  have HQL := hide (show (b.take n).length = n by rw [List.length_take, HNB.out]; omega)
  have HPB := hide (show Bytes (a.take n) from fun x hx => HBA.out x (List.mem_of_mem_take hx))
  have HQB := hide (show Bytes (b.take n) from fun x hx => HBB.out x (List.mem_of_mem_take hx))
  generalize a.take n = p at HP HPL HPB
  generalize b.take n = q at HQ HQL HQB
  obtain ⟨m, em, hm⟩ : ∃ m : Nat, within at_ 500 = (m : Int) ∧ m < 500 := by
    unfold within; rw [if_neg (by omega)]
    exact ⟨(at_ % 500).toNat, by omega, by omega⟩
  rw [em]
  clear em
  obtain ⟨wd, HWC⟩ : ∃ wd, Hid (wb.drewN nq = wd) := ⟨_, hide rfl⟩
  have HBC := hide (show Below w.heap.size w wd by rw [← HWC.out]; exact below_drewN HB.out _)
  have hbc : Below wb.heap.size wb wd := by rw [← HWC.out]; exact below_drewN (Below.refl _ _) _
  have hwb := B1.out.lt
  have hsc := hbc.size
  have BC := hide (B1.out.below hbc hwb)
  have HPC := hide (HP.out.below hbc (by omega))
  have HQC := hide (HQ.out.below hbc (by omega))
  rw [HWC.out]
  clear HP HQ HVA HVB HBA HBB B1 HB HWC hbc HNA HNB HS1 HS2
  obtain ⟨_, _, eA, _, _, hA3⟩ := HPC.out.open_
  injection eA with e1 e2 e3
  rw [← e1] at hA3
  clear e1 e2 e3
  obtain ⟨_, _, eB, _, _, hB3⟩ := HQC.out.open_
  injection eB with e1 e2 e3
  rw [← e1] at hB3
  clear e1 e2 e3
  rw [HPL.out] at hA3
  rw [HQL.out] at hB3
  have HPR := hide HPC.out
  have HA3 := hide hA3
  have HB3 := hide hB3
  clear hA3 hB3
  have HSL := hide (show (xorF p q).length = n by simp [xorF, HPL.out, HQL.out])
  have HSB := hide (show Bytes (xorF p q) from xorF_bytes' HPB.out HQB.out)
  have HSG := hide (fun j (hj : j < n) => xorF_get p q j (by rw [HPL.out]; exact hj) (by rw [HQL.out]; exact hj))
  obtain ⟨s, HSX⟩ : ∃ s, Hid (xorF p q = s) := ⟨_, hide rfl⟩
  rw [HSX.out] at HSL HSB HSG
  go_wp2_with (refine wpList_make_bytes rfl _ _ rfl .i64 .i64 n n rfl rfl (Nat.le_refl _) (by omega) ?_; intro w1 b1 hb1 hs1; have BS1 := hide b1; have HB1 := hide hb1; clear b1 hb1)
  go_loopw [33] (fun vi wr => ∃ k : Nat, k ≤ n ∧ vi = .int .i64 k ∧ Blk wr wd.heap.size 5 (u8s (s.take k ++ List.replicate (n - k) 0)) ∧ Below wd.heap.size wd wr) (fun vi _ => n - (intOf vi).toNat)
  case atStart => exact ⟨0, by omega, rfl, by simpa using BS1.out, HB1.out⟩
  case round =>
    clear BS1 HB1
    obtain ⟨k, hkn, rfl, bs, hbel⟩ := hrel
    have BS := hide bs
    have HBW := hide hbel
    clear bs hbel
    have HRL := hide (show (s.take k ++ List.replicate (n - k) 0).length = n by rw [List.length_append, List.length_take, List.length_replicate, HSL.out]; omega)
    by_cases hkt : k < n
    · obtain ⟨bA, oA, rfl, hbA, hcA⟩ := HA3.out (by omega)
      obtain ⟨bB, oB, rfl, hbB, hcB⟩ := HB3.out (by omega)
      obtain ⟨x, HX⟩ : ∃ x, Hid (p.getD k 0 = x) := ⟨_, hide rfl⟩
      obtain ⟨y, HY⟩ : ∃ x, Hid (q.getD k 0 = x) := ⟨_, hide rfl⟩
      have c1 := (HBW.out.cell (p := ⟨bA, oA + k, none⟩) (by simp; omega)).trans (hcA k x hkt HX.out)
      have c2 := (HBW.out.cell (p := ⟨bB, oB + k, none⟩) (by simp; omega)).trans (hcB k y hkt HY.out)
      have c3 := blk_get BS.out k _ (by rw [HRL.out]; exact hkt) rfl
      have f1 := BS.out.frozen k
      have k0 : (0 : Int) ≤ (k : Int) := by omega
      have k1 : (k : Int) < (n : Int) := by omega
      clear hcA hcB
      go_wp2_with fail
      go_region
      all_goals
        go_wp2_with fail
        go_roundw
        case measure => simp [intOf]; omega
        case rel =>
          have hb := blk_set BS.out k (X8 x y)
          rw [take_set s n k (X8 x y) HSL.out hkt (by rw [HSG.out k hkt, HX.out, HY.out])] at hb
          exact ⟨k + 1, by omega, by go_num, hb, (HBW.out.setCell (by simp) _).drew⟩
    · have e : k = n := by omega
      subst e
      have k1 : ¬ (k : Int) < (k : Int) := by omega
      have BS2 := hide (show Blk wr wd.heap.size 5 (u8s s) by have := BS.out; rw [List.take_of_length_le (by rw [HSL.out]; exact Nat.le_refl _), Nat.sub_self] at this; simpa using this)
      clear BS HRL
      clear HPC HQC
      have hgs := BS2.out.lt
      have BKW := hide (BC.out.below HBW.out (by omega))
      have HBR := hide (HBC.out.trans (HBW.out.mono (by omega)))
      have HC1 := hide (fun (w' : World) (hb : Below wr.heap.size wr w') => (HC.out (m : Int) p (.slice A k cA) w' ⟨by omega, by omega⟩ (((HPR.out.below HBW.out (by omega)).below hb (by omega)).more (by have := hb.size; omega)) (by rw [HPL.out]; omega) HPB.out))
      have HC2 := hide (fun (w' : World) (hb : Below wr.heap.size wr w') => (HC.out (m : Int) s (.slice (some ⟨wd.heap.size, 0, none⟩) k k) w' ⟨by omega, by omega⟩ (by
        have h := (Own8.of_blk (base := wd.heap.size) (BS2.out.below hb hgs) (Nat.le_refl _) (by rw [HSL.out]; unfold maxLen; omega)).reads
        rw [HSL.out] at h
        exact h) (by rw [HSL.out]; omega) HSB.out))
      have HC3 := hide (fun (w' : World) (gz : Nat) (hz : Blk w' gz 5 (u8s (List.replicate k 0))) => (HC.out (m : Int) (List.replicate k 0) (.slice (some ⟨gz, 0, none⟩) k k) w' ⟨by omega, by omega⟩ (by
        have h := (Own8.of_blk (base := gz) hz (Nat.le_refl _) (by rw [List.length_replicate]; unfold maxLen; omega)).reads
        rw [List.length_replicate] at h
        exact h) (by rw [List.length_replicate]; omega) (fun x hx => by have := (List.mem_replicate.1 hx).2; subst this; omega)))
      rw [HPL.out, atF_of m (by omega)] at HC1
      rw [HSL.out, atF_of m (by omega)] at HC2
      rw [List.length_replicate, atF_of m (by omega)] at HC3
      have HXL := hide (show (streamF T ks m p).length = k by rw [streamF_len, HPL.out])
      have HYL := hide (show (streamF T ks m s).length = k by rw [streamF_len, HSL.out])
      have HZL := hide (show (streamF T ks m (List.replicate k 0)).length = k by rw [streamF_len, List.length_replicate])
      have HXG := hide (fun j (hj : j < k) => streamF_get T ks m p j (by rw [HPL.out]; exact hj))
      have HYG := hide (fun j (hj : j < k) => streamF_get T ks m s j (by rw [HSL.out]; exact hj))
      have HZG := hide (fun j (hj : j < k) => streamF_get T ks m (List.replicate k 0) j (by rw [List.length_replicate]; exact hj))
      obtain ⟨X, HX⟩ : ∃ x, Hid (streamF T ks m p = x) := ⟨_, hide rfl⟩
      obtain ⟨Y, HY⟩ : ∃ x, Hid (streamF T ks m s = x) := ⟨_, hide rfl⟩
      obtain ⟨Z, HZ⟩ : ∃ x, Hid (streamF T ks m (List.replicate k 0) = x) := ⟨_, hide rfl⟩
      rw [HX.out] at HC1 HXL HXG
      rw [HY.out] at HC2 HYL HYG
      rw [HZ.out] at HC3 HZL HZG
      clear HX HY HZ HC
      go_wp2_with fail
      go_cut [12, 13, 14] from 49 to 61 (fun s12 s13 s14 wx => ∃ g1 g2 g3 : Nat, s12 = .slice (some ⟨g1, 0, none⟩) k k ∧ s13 = .slice (some ⟨g2, 0, none⟩) k k ∧ s14 = .slice (some ⟨g3, 0, none⟩) k k ∧ Blk wx g1 5 (u8s X) ∧ Blk wx g2 5 (u8s Y) ∧ Blk wx g3 5 (u8s Z) ∧ Below wr.heap.size wr wx)
      case first =>
        refine wp_region_held_drew (S := fun w' => Below wr.heap.size wr w') (by kernel_rfl) (Below.refl _ _).drew (fun hHeld => ?_)
        refine take_d 49 (i := 0) (v := .agg (u8s key).toArray) rfl (by kernel_rfl) (by kernel_rfl) (by kernel_rfl) (by kernel_rfl) (fun _ _ _ h => h) (yieldsIf_load_mid (by kernel_rfl) 43 _ rfl w.heap.size 0 rfl (u8s key) _ (fun w' hS => blk_range (BKW.out.below hS (by omega)) 0 _ (fun j u h => by simpa using h)) rfl rfl HIK.out) hHeld ?_
        refine take_d 50 (i := 1) (v := .int .i64 (m : Int)) rfl (by kernel_rfl) (by kernel_rfl) (by kernel_rfl) (by kernel_rfl) (fun _ _ _ h => h) (Or.inl ⟨by kernel_rfl, fun w' hS => by go_simp⟩) hHeld ?_
        refine take_d 51 (i := 2) (v := .slice A k cA) rfl (by kernel_rfl) (by kernel_rfl) (by kernel_rfl) (by kernel_rfl) (fun _ _ _ h => h) (Or.inl ⟨by kernel_rfl, fun w' hS => by go_simp⟩) hHeld ?_
        refine take_d 53 (i := 4) (v := .agg (u8s key).toArray) rfl (by kernel_rfl) (by kernel_rfl) (by kernel_rfl) (by kernel_rfl) (fun _ _ _ h => h) (yieldsIf_load_mid (by kernel_rfl) 43 _ rfl w.heap.size 0 rfl (u8s key) _ (fun w' hS => blk_range (BKW.out.below hS (by omega)) 0 _ (fun j u h => by simpa using h)) rfl rfl HIK.out) hHeld ?_
        refine take_d 54 (i := 5) (v := .int .i64 (m : Int)) rfl (by kernel_rfl) (by kernel_rfl) (by kernel_rfl) (by kernel_rfl) (fun _ _ _ h => h) (Or.inl ⟨by kernel_rfl, fun w' hS => by go_simp⟩) hHeld ?_
        refine take_d 55 (i := 6) (v := .slice (some ⟨wd.heap.size, 0, none⟩) k k) rfl (by kernel_rfl) (by kernel_rfl) (by kernel_rfl) (by kernel_rfl) (fun _ _ _ h => h) (Or.inl ⟨by kernel_rfl, fun w' hS => by go_simp⟩) hHeld ?_
        refine take_d 57 (i := 8) (v := .agg (u8s key).toArray) rfl (by kernel_rfl) (by kernel_rfl) (by kernel_rfl) (by kernel_rfl) (fun _ _ _ h => h) (yieldsIf_load_mid (by kernel_rfl) 43 _ rfl w.heap.size 0 rfl (u8s key) _ (fun w' hS => blk_range (BKW.out.below hS (by omega)) 0 _ (fun j u h => by simpa using h)) rfl rfl HIK.out) hHeld ?_
        refine take_d 58 (i := 9) (v := .int .i64 (m : Int)) rfl (by kernel_rfl) (by kernel_rfl) (by kernel_rfl) (by kernel_rfl) (fun _ _ _ h => h) (Or.inl ⟨by kernel_rfl, fun w' hS => by go_simp⟩) hHeld ?_
        refine take_d 59 (i := 10) (v := .int .i64 (k : Int)) rfl (by kernel_rfl) (by kernel_rfl) (by kernel_rfl) (by kernel_rfl) (fun _ _ _ h => h) (Or.inl ⟨by kernel_rfl, fun w' hS => by go_simp⟩) hHeld ?_
        simp only [Act.put, List.setIfInBounds_toArray, List.set_cons_zero, List.set_cons_succ]
        refine wpAnyH_ready (rs := [3, 11]) (by kernel_rfl) (by simp) (AllReadyH.cons rfl (fun K hK => ?c18) (AllReadyH.cons rfl (fun K hK => ?m8) AllReadyH.nil))
        case c18 =>
          rw [if_pos (by kernel_rfl)]
          go_simp
          refine (HC1.out _ hHeld).mono ?_
          rintro e w1 ⟨g1, rfl, hg1, b1, hbx⟩
          have hl1 := b1.lt
          go_simp
          have hsz := hbx.size
          refine hK.out _ _ (hHeld.trans (hbx.mono hHeld.size)) (fun hHeld => ?_)
          clear hK K hbx
          try simp only [Act.put, List.setIfInBounds_toArray, List.set_cons_zero, List.set_cons_succ]
          refine wpAnyH_ready (rs := [7, 11]) (by kernel_rfl) (by simp) (AllReadyH.cons rfl (fun K hK => ?c210) (AllReadyH.cons rfl (fun K hK => ?m10) AllReadyH.nil))
          case c210 =>
            rw [if_pos (by kernel_rfl)]
            go_simp
            refine (HC2.out _ hHeld).mono ?_
            rintro e w2 ⟨g2, rfl, hg2, b2, hbx⟩
            have hl2 := b2.lt
            go_simp
            have hsz := hbx.size
            replace b1 := b1.below hbx (by omega)
            have hl1' := b1.lt
            refine hK.out _ _ (hHeld.trans (hbx.mono hHeld.size)) (fun hHeld => ?_)
            clear hK K hbx
            try simp only [Act.put, List.setIfInBounds_toArray, List.set_cons_zero, List.set_cons_succ]
            refine wpAnyH_ready (rs := [11]) (by kernel_rfl) (by simp) (AllReadyH.cons rfl (fun K hK => ?m12) AllReadyH.nil)
            case m12 =>
              rw [if_pos (by kernel_rfl)]
              refine wp_make_bytesD 60 (by kernel_rfl) (.tmp 59) (.tmp 59) (by kernel_rfl) .i64 .i64 k k (by kernel_rfl) (by kernel_rfl) (Nat.le_refl _) (by omega) ?_
              intro w4 bz hbx hsx
              have hlz := bz.lt
              have hsz := hbx.size
              replace b1 := b1.below hbx (by omega)
              have hl1' := b1.lt
              replace b2 := b2.below hbx (by omega)
              have hl2' := b2.lt
              refine hK.out _ _ (hHeld.trans (hbx.mono hHeld.size)) (fun hHeld => ?_)
              clear hK K hbx
              try simp only [Act.put, List.setIfInBounds_toArray, List.set_cons_zero, List.set_cons_succ]
              refine wpAnyH_ready (rs := [12]) (by kernel_rfl) (by simp) (AllReadyH.cons rfl (fun K hK => ?c314) AllReadyH.nil)
              case c314 =>
                rw [if_pos (by kernel_rfl)]
                go_simp
                refine (HC3.out _ _ bz).mono ?_
                rintro e w3 ⟨g3, rfl, hg3, b3, hbx⟩
                have hl3 := b3.lt
                go_simp
                have hsz := hbx.size
                replace b1 := b1.below hbx (by omega)
                have hl1' := b1.lt
                replace b2 := b2.below hbx (by omega)
                have hl2' := b2.lt
                replace bz := bz.below hbx (by omega)
                have hlz' := bz.lt
                refine hK.out _ _ (hHeld.trans (hbx.mono hHeld.size)) (fun hHeld => ?_)
                clear hK K hbx
                try simp only [Act.put, List.setIfInBounds_toArray, List.set_cons_zero, List.set_cons_succ]
                refine take_d 12 (i := 13) (v := .slice (some ⟨g1, 0, none⟩) k k) rfl (by kernel_rfl) (by kernel_rfl) (by kernel_rfl) (by kernel_rfl) (fun _ _ _ h => h) (Or.inl ⟨by kernel_rfl, fun w' hS => by go_simp⟩) hHeld ?_
                refine take_d 13 (i := 14) (v := .slice (some ⟨g2, 0, none⟩) k k) rfl (by kernel_rfl) (by kernel_rfl) (by kernel_rfl) (by kernel_rfl) (fun _ _ _ h => h) (Or.inl ⟨by kernel_rfl, fun w' hS => by go_simp⟩) hHeld ?_
                refine take_d 14 (i := 15) (v := .slice (some ⟨g3, 0, none⟩) k k) rfl (by kernel_rfl) (by kernel_rfl) (by kernel_rfl) (by kernel_rfl) (fun _ _ _ h => h) (Or.inl ⟨by kernel_rfl, fun w' hS => by go_simp⟩) hHeld ?_
                simp only [Act.put, List.setIfInBounds_toArray, List.set_cons_zero, List.set_cons_succ]
                refine wpAnyH_done (by kernel_rfl) ?_ _
                go_wp2_with fail
                go_meet
                exact ⟨g1, g2, g3, rfl, rfl, rfl, b1, b2, b3, hHeld⟩
          case m10 =>
            rw [if_pos (by kernel_rfl)]
            refine wp_make_bytesD 60 (by kernel_rfl) (.tmp 59) (.tmp 59) (by kernel_rfl) .i64 .i64 k k (by kernel_rfl) (by kernel_rfl) (Nat.le_refl _) (by omega) ?_
            intro w4 bz hbx hsx
            have hlz := bz.lt
            have hsz := hbx.size
            replace b1 := b1.below hbx (by omega)
            have hl1' := b1.lt
            refine hK.out _ _ (hHeld.trans (hbx.mono hHeld.size)) (fun hHeld => ?_)
            clear hK K hbx
            try simp only [Act.put, List.setIfInBounds_toArray, List.set_cons_zero, List.set_cons_succ]
            refine wpAnyH_ready (rs := [7]) (by kernel_rfl) (by simp) (AllReadyH.cons rfl (fun K hK => ?c212) AllReadyH.nil)
            case c212 =>
              rw [if_pos (by kernel_rfl)]
              go_simp
              refine (HC2.out _ hHeld).mono ?_
              rintro e w2 ⟨g2, rfl, hg2, b2, hbx⟩
              have hl2 := b2.lt
              go_simp
              have hsz := hbx.size
              replace b1 := b1.below hbx (by omega)
              have hl1' := b1.lt
              replace bz := bz.below hbx (by omega)
              have hlz' := bz.lt
              refine hK.out _ _ (hHeld.trans (hbx.mono hHeld.size)) (fun hHeld => ?_)
              clear hK K hbx
              try simp only [Act.put, List.setIfInBounds_toArray, List.set_cons_zero, List.set_cons_succ]
              refine wpAnyH_ready (rs := [12]) (by kernel_rfl) (by simp) (AllReadyH.cons rfl (fun K hK => ?c314) AllReadyH.nil)
              case c314 =>
                rw [if_pos (by kernel_rfl)]
                go_simp
                refine (HC3.out _ _ bz).mono ?_
                rintro e w3 ⟨g3, rfl, hg3, b3, hbx⟩
                have hl3 := b3.lt
                go_simp
                have hsz := hbx.size
                replace b1 := b1.below hbx (by omega)
                have hl1' := b1.lt
                replace bz := bz.below hbx (by omega)
                have hlz' := bz.lt
                replace b2 := b2.below hbx (by omega)
                have hl2' := b2.lt
                refine hK.out _ _ (hHeld.trans (hbx.mono hHeld.size)) (fun hHeld => ?_)
                clear hK K hbx
                try simp only [Act.put, List.setIfInBounds_toArray, List.set_cons_zero, List.set_cons_succ]
                refine take_d 12 (i := 13) (v := .slice (some ⟨g1, 0, none⟩) k k) rfl (by kernel_rfl) (by kernel_rfl) (by kernel_rfl) (by kernel_rfl) (fun _ _ _ h => h) (Or.inl ⟨by kernel_rfl, fun w' hS => by go_simp⟩) hHeld ?_
                refine take_d 13 (i := 14) (v := .slice (some ⟨g2, 0, none⟩) k k) rfl (by kernel_rfl) (by kernel_rfl) (by kernel_rfl) (by kernel_rfl) (fun _ _ _ h => h) (Or.inl ⟨by kernel_rfl, fun w' hS => by go_simp⟩) hHeld ?_
                refine take_d 14 (i := 15) (v := .slice (some ⟨g3, 0, none⟩) k k) rfl (by kernel_rfl) (by kernel_rfl) (by kernel_rfl) (by kernel_rfl) (fun _ _ _ h => h) (Or.inl ⟨by kernel_rfl, fun w' hS => by go_simp⟩) hHeld ?_
                simp only [Act.put, List.setIfInBounds_toArray, List.set_cons_zero, List.set_cons_succ]
                refine wpAnyH_done (by kernel_rfl) ?_ _
                go_wp2_with fail
                go_meet
                exact ⟨g1, g2, g3, rfl, rfl, rfl, b1, b2, b3, hHeld⟩
        case m8 =>
          rw [if_pos (by kernel_rfl)]
          refine wp_make_bytesD 60 (by kernel_rfl) (.tmp 59) (.tmp 59) (by kernel_rfl) .i64 .i64 k k (by kernel_rfl) (by kernel_rfl) (Nat.le_refl _) (by omega) ?_
          intro w4 bz hbx hsx
          have hlz := bz.lt
          have hsz := hbx.size
          refine hK.out _ _ (hHeld.trans (hbx.mono hHeld.size)) (fun hHeld => ?_)
          clear hK K hbx
          try simp only [Act.put, List.setIfInBounds_toArray, List.set_cons_zero, List.set_cons_succ]
          refine wpAnyH_ready (rs := [3]) (by kernel_rfl) (by simp) (AllReadyH.cons rfl (fun K hK => ?c110) AllReadyH.nil)
          case c110 =>
            rw [if_pos (by kernel_rfl)]
            go_simp
            refine (HC1.out _ hHeld).mono ?_
            rintro e w1 ⟨g1, rfl, hg1, b1, hbx⟩
            have hl1 := b1.lt
            go_simp
            have hsz := hbx.size
            replace bz := bz.below hbx (by omega)
            have hlz' := bz.lt
            refine hK.out _ _ (hHeld.trans (hbx.mono hHeld.size)) (fun hHeld => ?_)
            clear hK K hbx
            try simp only [Act.put, List.setIfInBounds_toArray, List.set_cons_zero, List.set_cons_succ]
            refine wpAnyH_ready (rs := [7]) (by kernel_rfl) (by simp) (AllReadyH.cons rfl (fun K hK => ?c212) AllReadyH.nil)
            case c212 =>
              rw [if_pos (by kernel_rfl)]
              go_simp
              refine (HC2.out _ hHeld).mono ?_
              rintro e w2 ⟨g2, rfl, hg2, b2, hbx⟩
              have hl2 := b2.lt
              go_simp
              have hsz := hbx.size
              replace bz := bz.below hbx (by omega)
              have hlz' := bz.lt
              replace b1 := b1.below hbx (by omega)
              have hl1' := b1.lt
              refine hK.out _ _ (hHeld.trans (hbx.mono hHeld.size)) (fun hHeld => ?_)
              clear hK K hbx
              try simp only [Act.put, List.setIfInBounds_toArray, List.set_cons_zero, List.set_cons_succ]
              refine wpAnyH_ready (rs := [12]) (by kernel_rfl) (by simp) (AllReadyH.cons rfl (fun K hK => ?c314) AllReadyH.nil)
              case c314 =>
                rw [if_pos (by kernel_rfl)]
                go_simp
                refine (HC3.out _ _ bz).mono ?_
                rintro e w3 ⟨g3, rfl, hg3, b3, hbx⟩
                have hl3 := b3.lt
                go_simp
                have hsz := hbx.size
                replace bz := bz.below hbx (by omega)
                have hlz' := bz.lt
                replace b1 := b1.below hbx (by omega)
                have hl1' := b1.lt
                replace b2 := b2.below hbx (by omega)
                have hl2' := b2.lt
                refine hK.out _ _ (hHeld.trans (hbx.mono hHeld.size)) (fun hHeld => ?_)
                clear hK K hbx
                try simp only [Act.put, List.setIfInBounds_toArray, List.set_cons_zero, List.set_cons_succ]
                refine take_d 12 (i := 13) (v := .slice (some ⟨g1, 0, none⟩) k k) rfl (by kernel_rfl) (by kernel_rfl) (by kernel_rfl) (by kernel_rfl) (fun _ _ _ h => h) (Or.inl ⟨by kernel_rfl, fun w' hS => by go_simp⟩) hHeld ?_
                refine take_d 13 (i := 14) (v := .slice (some ⟨g2, 0, none⟩) k k) rfl (by kernel_rfl) (by kernel_rfl) (by kernel_rfl) (by kernel_rfl) (fun _ _ _ h => h) (Or.inl ⟨by kernel_rfl, fun w' hS => by go_simp⟩) hHeld ?_
                refine take_d 14 (i := 15) (v := .slice (some ⟨g3, 0, none⟩) k k) rfl (by kernel_rfl) (by kernel_rfl) (by kernel_rfl) (by kernel_rfl) (fun _ _ _ h => h) (Or.inl ⟨by kernel_rfl, fun w' hS => by go_simp⟩) hHeld ?_
                simp only [Act.put, List.setIfInBounds_toArray, List.set_cons_zero, List.set_cons_succ]
                refine wpAnyH_done (by kernel_rfl) ?_ _
                go_wp2_with fail
                go_meet
                exact ⟨g1, g2, g3, rfl, rfl, rfl, b1, b2, b3, hHeld⟩
      case rest =>
        obtain ⟨g1, g2, g3, rfl, rfl, rfl, b1, b2, b3, hbel⟩ := hcut
        have K1 := hide b1
        have K2 := hide b2
        have K3 := hide b3
        have HBX := hide (HBR.out.trans (hbel.mono (by omega)))
        have HBT := hide (HBW.out.trans (hbel.mono (by omega)))
        have hnn : ((k : Int) != (k : Int)) = false := by simp
        clear b1 b2 b3 hbel HC1 HC2 HC3 BS2 BKW
        go_wp2_with fail
        go_loopw [80] (fun vi wr => ∃ j : Nat, j ≤ k ∧ vi = .int .i64 j ∧ Below wc.heap.size wc wr) (fun vi _ => k - (intOf vi).toNat)
        case atStart => exact ⟨0, by omega, rfl, Below.refl _ _⟩
        case round =>
          obtain ⟨j, hjk, rfl, hbel⟩ := hrel
          have HBJ := hide hbel
          clear hbel
          by_cases hjt : j < k
          · have l1 := K1.out.lt
            have l2 := K2.out.lt
            have l3 := K3.out.lt
            have C1 := blk_get (K1.out.below HBJ.out l1) j _ (by rw [HXL.out]; exact hjt) rfl
            have C2 := blk_get (K2.out.below HBJ.out l2) j _ (by rw [HYL.out]; exact hjt) rfl
            have C3 := blk_get (K3.out.below HBJ.out l3) j _ (by rw [HZL.out]; exact hjt) rfl
            obtain ⟨bA, oA, rfl, hbA, hcA⟩ := HA3.out (by omega)
            obtain ⟨bB, oB, rfl, hbB, hcB⟩ := HB3.out (by omega)
            have hbt := HBT.out.size
            have C4 := (HBJ.out.cell (p := ⟨bA, oA + j, none⟩) (by simp; omega)).trans ((HBT.out.cell (p := ⟨bA, oA + j, none⟩) (by simp; omega)).trans (hcA j _ hjt rfl))
            have C5 := (HBJ.out.cell (p := ⟨bB, oB + j, none⟩) (by simp; omega)).trans ((HBT.out.cell (p := ⟨bB, oB + j, none⟩) (by simp; omega)).trans (hcB j _ hjt rfl))
            have hkb := keyAt_byte HT.out.2 HKL.out HKB.out (m + j)
            have e1 := HXG.out j hjt
            have e2 := HYG.out j hjt
            have e3 := HZG.out j hjt
            unfold streamAt at e1 e2 e3
            rw [HSG.out j hjt] at e2
            rw [getD_rep] at e3
            have h1 : X8 (X.getD j 0) (q.getD j 0) = Y.getD j 0 := by rw [e1, e2]; exact x8_swap (HPB.out.getD _) (HQB.out.getD _) hkb
            have h2 : X8 (Z.getD j 0) (p.getD j 0) = X.getD j 0 := by rw [e1, e3]; exact x8_nought (HPB.out.getD _) hkb
            clear e1 e2 e3 hkb hcA hcB
            generalize X.getD j 0 = x at C1 h1 h2
            generalize Y.getD j 0 = y at C2 h1
            generalize Z.getD j 0 = z at C3 h2
            generalize p.getD j 0 = pa at C4 h2
            generalize q.getD j 0 = qb at C5 h1
            unfold X8 at h1 h2
            have d1 : (bits .xor .u8 x qb != y) = false := by rw [h1]; simp
            have d2 : (bits .xor .u8 z pa != x) = false := by rw [h2]; simp
            clear h1 h2
            have j0 : (0 : Int) ≤ (j : Int) := by omega
            have j1 : (j : Int) < (k : Int) := by omega
            go_wp2_with fail
            go_quiet (fail)
            go_wp2_with fail
            go_roundw
            case measure => simp [intOf]; omega
            case rel => exact ⟨j + 1, by omega, by go_num, below_drewN HBJ.out _⟩
          · have j1 : ¬ (j : Int) < (k : Int) := by omega
            go_wp2_with fail
            refine (wakes03 _).mono ?_
            rintro e w9 ⟨rfl, hb9⟩
            have HB9 := hide (HBX.out.trans ((HBJ.out.trans (hb9.mono HBJ.out.size)).mono HBX.out.size))
            clear hb9
            go_wp2_with fail
            go_ret
            exact ⟨rfl, HB9.out⟩

set_option maxRecDepth 100000 in
theorem lifted (os : Os) (started : os.Started) (H : Type) (enc : TypeId × Value → H) :
    ReturnsInHanded {} Try.checked os 10 .any (Rows.aesSumsSpec.pre6 enc Try.prog Try.f10 Rows.aesSumsRow.domain false) (Rows.aesSumsSpec.post enc Try.prog Try.f10 false true false false) := by
  refine returnsInHanded_of_change (C := Try.checked) own started (by kernel_rfl) Try.func10
    (ChangeSpec.witness6 (enc := enc) (C := Try.checked) false ⟨#[], #[.agg #[.int .u8 0, .int .u8 0, .int .u8 0, .int .u8 0, .int .u8 0, .int .u8 0, .int .u8 0, .int .u8 0, .int .u8 0, .int .u8 0, .int .u8 0, .int .u8 0, .int .u8 0, .int .u8 0, .int .u8 0, .int .u8 0], .int .i64 0, .slice none 0 0, .slice none 0 0], []⟩ 8 (by kernel_rfl) (by kernel_rfl) (by kernel_rfl) (by kernel_rfl)) ?_
  intro W base args ds gs before hval0 hW hcnd _
  have hval : ∀ (j : Nat) t v, Try.f10.params[j]? = some t → args[j]? = some v → Value.okWide Try.prog W .any base t v := hval0
  have hW' := hW
  obtain ⟨p, q, hA0, hV, rfl, hfz, hnd⟩ := hW
  have hA : DataW.TrodAll enc Try.prog W 0 (fun _ => true) true Try.f10.params.toList args.toList ds p := hA0
  rw [Try.params10] at hA hval
  obtain ⟨v0, vs0, d0, ds0, p0, q0, hargs, rfl, rfl, h0, r0⟩ := trodAll_cons hA
  obtain ⟨v1, vs1, d1, ds1, p1, q1, rfl, rfl, rfl, h1, r1⟩ := trodAll_cons r0
  obtain ⟨v2, vs2, d2, ds2, p2, q2, rfl, rfl, rfl, h2, r2⟩ := trodAll_cons r1
  obtain ⟨v3, vs3, d3, ds3, p3, q3, rfl, rfl, rfl, h3, r3⟩ := trodAll_cons r2
  obtain ⟨rfl, rfl, rfl⟩ := trodAll_nil r3
  obtain rfl : args = #[v0, v1, v2, v3] := by cases args; simp_all
  obtain ⟨rfl, rfl⟩ := trodVars_none hV
  have k0 := h0
  have lt0 : ∀ x ∈ p0, x.block < W.heap.size := by obtain ⟨m, hm⟩ := k0; exact DataW.trod_lt m _ _ _ hm
  obtain ⟨z0, rfl, w0, b0⟩ := read_arr16_key (hval 0 43 v0 rfl rfl) h0
  obtain ⟨a1, rfl, rfl, rfl, wf1⟩ := open_int Try.underlying3 (hval 1 3 v1 rfl rfl) h1
  obtain ⟨s2, len2, cap2, rfl⟩ := okWide_slice Try.underlying49 (hval 2 49 v2 rfl rfl)
  have k2 := h2
  have lt2 : ∀ x ∈ p2, x.block < W.heap.size := by obtain ⟨m, hm⟩ := k2; exact DataW.trod_lt m _ _ _ hm
  obtain ⟨z2, w2, b2⟩ := read_bytes h2
  obtain ⟨s3, len3, cap3, rfl⟩ := okWide_slice Try.underlying49 (hval 3 49 v3 rfl rfl)
  have k3 := h3
  have lt3 : ∀ x ∈ p3, x.block < W.heap.size := by obtain ⟨m, hm⟩ := k3; exact DataW.trod_lt m _ _ _ hm
  obtain ⟨z3, w3, b3⟩ := read_bytes h3
  clear hA0 hval0
  refine (walk W z0 w0 b0 a1 (in64_wf wf1) _ z2 w2 b2 _ z3 w3 b3).mono fun e W' ⟨he, bel⟩ => ?_
  subst he
  exact ⟨_, rfl, _, _, _, [], _, [], hW', trodAll_mk1 (shut_bool Try.underlying4 _), (trodAll_cons_mk (Below.trod laidOut (by kernel_rfl) (of_decide_eq_true (by kernel_rfl)) k0 bel lt0) (trodAll_cons_mk (shut_int Try.underlying3 wf1) (trodAll_cons_mk (Below.trod laidOut (by kernel_rfl) (of_decide_eq_true (by kernel_rfl)) k2 bel lt2) (trodAll_cons_mk (Below.trod laidOut (by kernel_rfl) (of_decide_eq_true (by kernel_rfl)) k3 bel lt3) trodAll_mk0)))), rfl, bel.frame _, fun h => by cases h⟩

theorem over : Rows.aesSumsRow.holds Try.pinned (OpenSpec.ofChange Rows.aesSumsSpec) :=
  OpenClaim.holds_of_wide 10 Try.f10 rfl rfl rfl rfl rfl rfl rfl ⟨rfl, rfl, rfl, rfl, rfl⟩ rfl rfl rfl rfl rfl (by kernel_rfl) Try.func10 (by kernel_rfl)
    (of_decide_eq_true (by kernel_rfl)) (by unfold Func.isWrapper; rw [if_neg (of_decide_eq_false (by kernel_rfl))]; exact ⟨rfl, rfl⟩)
    (fun os started H enc _ => lifted os started H enc)

theorem proved : Rows.AesSumsSaid := over
end Go.Proofs.Ytoicohcomjnnfaa.LawAesSums
