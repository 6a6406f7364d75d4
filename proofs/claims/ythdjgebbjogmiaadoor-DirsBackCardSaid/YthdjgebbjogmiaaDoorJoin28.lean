/- caps.VerifyOnly, Index: what may only verify the same; where it is kept. Condition: the table of powers of ten stands.
A print (32 bytes) that comes in. No condition. -/
import Derived.Test.YthdjgebbjogmiaaDoorCapRO
import Derived.Test.YthdjgebbjogmiaaDoorJoin6
set_option linter.unusedVariables false
set_option linter.unusedSimpArgs false
namespace Go.Proofs.YthdjgebbjogmiaaDoor
open Go Go.RowKit
set_option linter.unusedVariables false
set_option linter.unusedSimpArgs false
set_option maxRecDepth 100000
set_option maxHeartbeats 8000000
theorem roF_kind {c : CapD} (h : readF c = true) : 1 ≤ (roF c).kind ∧ (roF c).kind ≤ 10 := by
 have := valid_kind (readF_kind h).1
 unfold roF
 rw [if_pos h]
 split
 · show 1 ≤ c.kind + 1 ∧ c.kind + 1 ≤ 10
   omega
 · omega
theorem VerifyOnly_any (c : CapD) (lit : Value) (w : World) (hwf : c.Wf) (hl : Bs w w.heap.size lit c.lit) (hn : c.lit.length ≤ 1000000) (ht : Tab w w.heap.size) :
 Calls Tryd.prog 33 #[capV c lit] w fun e w' => ∃ l', e = .returned (.tuple #[capV (voF c) l', .int .i64 (voE c)]) ∧ Bs w' w'.heap.size l' (voF c).lit ∧ Below w.heap.size w w' := by
 have hc := capV_of hwf.keyL hwf.fpL hl
 have H1 := hide hwf.keyL
 have H2 := hide hwf.fpL
 have H3 := hide hl.one
 have HL := hide hl
 have HLB := hide hwf.litB
 have HWF := hide hwf
 have HT := hide ht
 obtain ⟨NN, HNN⟩ : ∃ x, Hid (CapD.none_ = x) := ⟨_, hide rfl⟩
 have HN1 := hide (show NN.key.length = 16 by rw [← HNN.out]; rfl)
 have HN2 := hide (show NN.fp.length = 32 by rw [← HNN.out]; rfl)
 have HNL := hide (show NN.lit = [] by rw [← HNN.out]; rfl)
 obtain ⟨CV, HCV⟩ : ∃ x, Hid (capV c lit = x) := ⟨_, hide rfl⟩
 by_cases hv : decide c.Valid = true
 · have HVA := hide (fun w => by have := Valid_any c lit w hc; rw [hv, HCV.out] at this; exact this)
   by_cases h3 : c.kind = 3
   · have e3 : (c.kind == 3) = true := by simp [h3]
     have HF := hide (show voF c = NN ∧ voE c = 11 by rw [← HNN.out]; unfold voF voE; simp [h3])
     rw [HF.out.1, HF.out.2]
     clear hv hc hwf hl ht h3
     rw [HCV.out]
     go_enter Tryd.func33, Tryd.ntmps33
     obtain ⟨g, hg⟩ : ∃ n, w.heap.size = n := ⟨_, rfl⟩
     go_wp2_with (first
      | go_skip
      | (refine wpList_cap_new _ rfl HCV.out.symm rfl H1.out H2.out H3.out ?_; intro w1 hb1 hw1 hs1; rw [hg] at hb1 ⊢; have HB := hide hb1; have HW := hide hw1; clear hb1 hw1)
      | (refine wpList_cap_zero rfl rfl ?_; rw [HNN.out]; intro w2 hb2 hw2 hs2; have hg2 : w1.heap.size = g + 1 := (by omega); rw [hg2] at hb2; try rw [hg2]; have HZ := hide hb2; replace HB := hide (HB.out.below hw2 HB.out.lt); replace HW := hide (HW.out.trans (hw2.mono HW.out.size)); clear hb2 hw2)
      | (refine wpList_cap_all _ rfl rfl rfl HB.out ?_; rw [HCV.out]))
     refine (HVA.out _).mono ?_
     rintro e w3 ⟨rfl, hb3⟩
     replace HB := hide (HB.out.below hb3 HB.out.lt)
     replace HZ := hide (HZ.out.below hb3 HZ.out.lt)
     replace HW := hide (HW.out.trans (hb3.mono HW.out.size))
     clear hb3
     go_wp2_with (first
      | go_skip
      | (refine wpList_cap_int _ rfl _ rfl rfl HB.out _ rfl ?_)
      | (refine wpList_none_cap rfl rfl ?_; rw [HNN.out])
      | (refine wpList_cap_putAll _ _ rfl rfl rfl HZ.out NN (.slice none 0 0) rfl HN1.out HN2.out rfl ?_; intro w6 hb6 hg6 hs6; replace HZ := hide hb6; replace HW := hide (HW.out.grown hg6 HW.out.size (by intro k hk; simp at hk; omega)); clear hb6 hg6))
     refine bodyPost_ret (results_cap_err rfl _ _ (g + 1) _ _ rfl HZ.out _ rfl) rfl ?_
     exact ⟨_, rfl, by rw [HNL.out]; exact Bs.nil_ _ _, HW.out⟩
   · have e3 : (c.kind == 3) = false := by simp [h3]
     have hok : (decide c.Valid && (c.kind != 3)) = true := by rw [hv]; simp [h3]
     have HE := hide (show voE c = 0 by unfold voE; rw [if_pos hok])
     have hVd : c.Valid := of_decide_eq_true hv
     have hcl : c.lit = [] := valid_lit hVd h3
     obtain ⟨C1, HC1⟩ : ∃ x, Hid (voF c = x) := ⟨_, hide rfl⟩
     have HC1N := hide (show C1.lit = [] by rw [← HC1.out]; exact voF_lit)
     by_cases hr : readF c = true
     · have HRD := hide (fun w => by have := read_any c lit w hc; rw [hr, HCV.out] at this; exact this)
       have HROE := hide (show roE c = 0 by unfold roE; rw [if_pos hr])
       obtain ⟨C2, HC2⟩ : ∃ x, Hid (roF c = x) := ⟨_, hide rfl⟩
       have hkd : 1 ≤ C2.kind ∧ C2.kind ≤ 10 := by rw [← HC2.out]; exact roF_kind hr
       have HRO := hide (fun w' (hw' : Below w.heap.size w w') => by
        have := ReadOnly_any c lit w' hwf ((hl.below hw' (Nat.le_refl _)).more hw'.size) hn ((ht.below hw' (Nat.le_refl _)).more hw'.size)
        rw [HCV.out, HC2.out, HROE.out] at this; exact this)
       have hwf2 : C2.Wf := by rw [← HC2.out]; exact roF_wf hwf
       obtain ⟨KV, HKV⟩ : ∃ x, Hid (Value.agg (u8s C2.key).toArray = x) := ⟨_, hide rfl⟩
       obtain ⟨KR, HKR0⟩ : ∃ x, Hid (keyF tIndex C2.key = x) := ⟨_, hide rfl⟩
       have HKL := hide (show KR.length = 16 by rw [← HKR0.out]; exact keyF_len _ _)
       obtain ⟨KRV, HKR⟩ : ∃ x, Hid (Value.agg (u8s KR).toArray = x) := ⟨_, hide rfl⟩
       have HSH := hide (fun w' (ht : Tab w' w'.heap.size) => by have := short_any tIndex C2.key w' hwf2.keyL hwf2.keyB (by decide) ht; rw [HKV.out, HKR0.out, HKR.out] at this; exact this)
       have HCK := hide hwf2.keyL
       have HCF := hide hwf2.fpL
       have HC1L := hide (show ({ C2 with kind := C2.kind + 1, key := KR, lit := [] } : CapD) = C1 by
        have e : voF c = { C2 with kind := C2.kind + 1, key := KR } := by unfold voF; rw [if_pos hok, if_pos hr, HC2.out, HKR0.out]
        have l := HC1N.out
        rw [← HC1.out, e] at l
        have l2 : C2.lit = [] := l
        rw [← HC1.out, e, l2])
       rw [HC1.out, HE.out]
       clear hv hc hwf hl ht h3 hok hVd hcl hr hwf2
       rw [HCV.out]
       go_enter Tryd.func33, Tryd.ntmps33
       obtain ⟨g, hg⟩ : ∃ n, w.heap.size = n := ⟨_, rfl⟩
       go_wp2_with (first
        | go_skip
        | (refine wpList_cap_new _ rfl HCV.out.symm rfl H1.out H2.out H3.out ?_; intro w1 hb1 hw1 hs1; rw [hg] at hb1 ⊢; have HB := hide hb1; have HW := hide hw1; clear hb1 hw1)
        | (refine wpList_cap_zero rfl rfl ?_; rw [HNN.out]; intro w2 hb2 hw2 hs2; have hg2 : w1.heap.size = g + 1 := (by omega); rw [hg2] at hb2; try rw [hg2]; have HZ := hide hb2; replace HB := hide (HB.out.below hw2 HB.out.lt); replace HW := hide (HW.out.trans (hw2.mono HW.out.size)); clear hb2 hw2)
        | (refine wpList_cap_all _ rfl rfl rfl HB.out ?_; rw [HCV.out]))
       refine (HVA.out _).mono ?_
       rintro e w3 ⟨rfl, hb3⟩
       replace HB := hide (HB.out.below hb3 HB.out.lt)
       replace HZ := hide (HZ.out.below hb3 HZ.out.lt)
       replace HW := hide (HW.out.trans (hb3.mono HW.out.size))
       clear hb3
       go_wp2_with (first
        | go_skip
        | (refine wpList_cap_int _ rfl _ rfl rfl HB.out _ rfl ?_)
        | (refine wpList_cap_all _ rfl rfl rfl HB.out ?_; rw [HCV.out]))
       refine (HRD.out _).mono ?_
       rintro e w3 ⟨rfl, hb3⟩
       replace HB := hide (HB.out.below hb3 HB.out.lt)
       replace HZ := hide (HZ.out.below hb3 HZ.out.lt)
       replace HW := hide (HW.out.trans (hb3.mono HW.out.size))
       clear hb3
       go_wp2_with (refine wpList_cap_all _ rfl rfl rfl HB.out ?_; rw [HCV.out])
       refine (HRO.out _ HW.out).mono ?_
       rintro e w5 ⟨l5, rfl, hl5, hb5⟩
       have L5 := hide hl5.one
       replace HB := hide (HB.out.below hb5 HB.out.lt)
       replace HZ := hide (HZ.out.below hb5 HZ.out.lt)
       replace HW := hide (HW.out.trans (hb5.mono HW.out.size))
       clear hb5 hl5
       go_upto_region 5 with (refine wpList_cap_putAll _ _ rfl rfl rfl HB.out C2 l5 rfl HCK.out HCF.out L5.out ?_; intro w6 hb6 hg6 hs6; replace HB := hide hb6; replace HZ := hide (HZ.out.grown hg6 (by intro h; injection h with h; omega)); replace HW := hide (HW.out.grown hg6 HW.out.size (by intro k hk; simp at hk; omega)); clear hb6 hg6)
       refine wp_region_held_drew (S := fun w' => Below w.heap.size w w') (by kernel_rfl) HW.out.drew (fun hHeld => ?_)
       replace HB := hide (HB.out.below ((Below.refl _ _).drew) HB.out.lt)
       replace HZ := hide (HZ.out.below ((Below.refl _ _).drew) HZ.out.lt)
       refine take_e 20 (i := 0) (v := .pointer (some ⟨g, 0, none⟩)) rfl (by kernel_rfl) (Or.inl ⟨by kernel_rfl, fun w' hS => exec_field _ 0 0 rfl g rfl rfl⟩) hHeld ?_
       try simp only [Act.put, s1_, s2_, s3_]
       refine take_e 23 (i := 3) (v := .pointer (some ⟨g, 1, none⟩)) rfl (by kernel_rfl) (Or.inl ⟨by kernel_rfl, fun w' hS => exec_field _ 1 1 rfl g rfl rfl⟩) hHeld ?_
       try simp only [Act.put, s1_, s2_, s3_]
       refine wpAnyH_ready (rs := [1, 4]) (by kernel_rfl) (by simp) (AllReadyH.cons rfl (fun K hK => ?q1_1) (AllReadyH.cons rfl (fun K hK => ?q2_4) AllReadyH.nil))
       case q1_1 =>
        rw [if_pos (by kernel_rfl)]
        refine wp_cap_intD 21 rfl _ rfl 0 rfl HB.out _ rfl ?_
        refine hK.out _ _ hHeld (fun hHeld => ?_)
        clear hK K
        try simp only [Act.put, s1_, s2_, s3_]
        refine take_e 22 (i := 2) (v := .int .i64 (C2.kind + 1)) rfl (by kernel_rfl) (Or.inl ⟨by kernel_rfl, fun w' hS => exec_i64_add _ _ _ rfl _ _ _ rfl rfl (IntWalk.i64_in _ (by omega))⟩) hHeld ?_
        try simp only [Act.put, s1_, s2_, s3_]
        refine wpAnyH_ready (rs := [4]) (by kernel_rfl) (by simp) (AllReadyH.cons rfl (fun K hK => ?_) AllReadyH.nil)
        rw [if_pos (by kernel_rfl)]
        refine wp_cap_keyD 24 rfl _ rfl rfl HB.out ?_
        rw [HKV.out]
        refine hK.out _ _ hHeld (fun hHeld => ?_)
        clear hK K
        try simp only [Act.put, s1_, s2_, s3_]
        refine take_e 26 (i := 6) (v := .pointer (some ⟨g, 0, none⟩)) rfl (by kernel_rfl) (Or.inl ⟨by kernel_rfl, fun w' hS => exec_field _ 0 0 rfl g rfl rfl⟩) hHeld ?_
        try simp only [Act.put, s1_, s2_, s3_]
        refine wpAnyH_ready (rs := [5]) (by kernel_rfl) (by simp) (AllReadyH.cons rfl (fun K hK => ?_) AllReadyH.nil)
        rw [if_pos (by kernel_rfl)]
        try go_simp
        refine (HSH.out _ ((HT.out.below hHeld (Nat.le_refl _)).more hHeld.size)).mono ?_
        rintro e wc ⟨rfl, hb⟩
        have HX := hide (hHeld.trans (hb.mono hHeld.size))
        replace HB := hide (HB.out.below hb HB.out.lt)
        replace HZ := hide (HZ.out.below hb HZ.out.lt)
        clear hb
        refine hK.out _ _ HX.out (fun hHeld => ?_)
        clear HX hK K
        try simp only [Act.put, s1_, s2_, s3_]
        refine wpAnyH_ready (rs := [7]) (by kernel_rfl) (by simp) (AllReadyH.cons rfl (fun K hK => ?_) AllReadyH.nil)
        rw [if_pos (by kernel_rfl)]
        refine wp_cap_putD rfl _ _ rfl 0 rfl HB.out (C2.kind + 1) rfl { C2 with kind := C2.kind + 1 } rfl ?_
        intro ws hb5 hg5 hs5
        replace HB := hide hb5
        replace HZ := hide (HZ.out.grown hg5 (by intro h; injection h with h; omega))
        have HX := hide (hHeld.grown hg5 hHeld.size (by intro k hk; simp at hk; omega))
        clear hb5 hg5 hs5
        refine hK.out _ _ HX.out (fun hHeld => ?_)
        clear HX hK K
        try simp only [Act.put, s1_, s2_, s3_]
        refine take_e 27 (i := 8) (v := .pointer (some ⟨g, 1, none⟩)) rfl (by kernel_rfl) (Or.inl ⟨by kernel_rfl, fun w' hS => exec_field _ 1 1 rfl g rfl rfl⟩) hHeld ?_
        try simp only [Act.put, s1_, s2_, s3_]
        refine wpAnyH_ready (rs := [9]) (by kernel_rfl) (by simp) (AllReadyH.cons rfl (fun K hK => ?_) AllReadyH.nil)
        rw [if_pos (by kernel_rfl)]
        refine wp_cap_putKeyD rfl _ _ rfl rfl HB.out KR HKR.out.symm HKL.out ?_
        intro ws hb5 hg5 hs5
        replace HB := hide hb5
        replace HZ := hide (HZ.out.grown hg5 (by intro h; injection h with h; omega))
        have HX := hide (hHeld.grown hg5 hHeld.size (by intro k hk; simp at hk; omega))
        clear hb5 hg5 hs5
        refine hK.out _ _ HX.out (fun hHeld => ?_)
        clear HX hK K
        try simp only [Act.put, s1_, s2_, s3_]
        refine wpAnyH_done (by kernel_rfl) ?_ _
        replace HW := hide hHeld
        clear hHeld
        go_wp2_with (first
         | (refine wpList_cap_putLit _ _ rfl rfl rfl HB.out (.slice none 0 0) rfl rfl [] ?_; intro w6 hb6 hg6 hs6; replace HB := hide (show CapB w6 g C1 (.slice none 0 0) from (by rw [← HC1L.out]; exact hb6)); replace HZ := hide (HZ.out.grown hg6 (by intro h; injection h with h; omega)); replace HW := hide (HW.out.grown hg6 HW.out.size (by intro k hk; simp at hk; omega)); clear hb6 hg6)
         | (refine wpList_cap_all _ rfl rfl rfl HB.out ?_)
         | (refine wpList_cap_putAll _ _ rfl rfl rfl HZ.out C1 (.slice none 0 0) rfl HB.out.keyL HB.out.fpL HB.out.one ?_; intro w7 hb7 hg7 hs7; replace HZ := hide hb7; replace HW := hide (HW.out.grown hg7 HW.out.size (by intro k hk; simp at hk; omega)); clear hb7 hg7))
        refine bodyPost_ret (results_cap_err rfl _ _ (g + 1) _ _ rfl HZ.out _ rfl) rfl ?_
        exact ⟨_, rfl, by rw [HC1N.out]; exact Bs.nil_ _ _, HW.out⟩
       case q2_4 =>
        rw [if_pos (by kernel_rfl)]
        refine wp_cap_keyD 24 rfl _ rfl rfl HB.out ?_
        rw [HKV.out]
        refine hK.out _ _ hHeld (fun hHeld => ?_)
        clear hK K
        try simp only [Act.put, s1_, s2_, s3_]
        refine wpAnyH_ready (rs := [1, 5]) (by kernel_rfl) (by simp) (AllReadyH.cons rfl (fun K hK => ?q7_1) (AllReadyH.cons rfl (fun K hK => ?q8_5) AllReadyH.nil))
        case q7_1 =>
         rw [if_pos (by kernel_rfl)]
         refine wp_cap_intD 21 rfl _ rfl 0 rfl HB.out _ rfl ?_
         refine hK.out _ _ hHeld (fun hHeld => ?_)
         clear hK K
         try simp only [Act.put, s1_, s2_, s3_]
         refine take_e 22 (i := 2) (v := .int .i64 (C2.kind + 1)) rfl (by kernel_rfl) (Or.inl ⟨by kernel_rfl, fun w' hS => exec_i64_add _ _ _ rfl _ _ _ rfl rfl (IntWalk.i64_in _ (by omega))⟩) hHeld ?_
         try simp only [Act.put, s1_, s2_, s3_]
         refine take_e 26 (i := 6) (v := .pointer (some ⟨g, 0, none⟩)) rfl (by kernel_rfl) (Or.inl ⟨by kernel_rfl, fun w' hS => exec_field _ 0 0 rfl g rfl rfl⟩) hHeld ?_
         try simp only [Act.put, s1_, s2_, s3_]
         refine wpAnyH_ready (rs := [5]) (by kernel_rfl) (by simp) (AllReadyH.cons rfl (fun K hK => ?_) AllReadyH.nil)
         rw [if_pos (by kernel_rfl)]
         try go_simp
         refine (HSH.out _ ((HT.out.below hHeld (Nat.le_refl _)).more hHeld.size)).mono ?_
         rintro e wc ⟨rfl, hb⟩
         have HX := hide (hHeld.trans (hb.mono hHeld.size))
         replace HB := hide (HB.out.below hb HB.out.lt)
         replace HZ := hide (HZ.out.below hb HZ.out.lt)
         clear hb
         refine hK.out _ _ HX.out (fun hHeld => ?_)
         clear HX hK K
         try simp only [Act.put, s1_, s2_, s3_]
         refine wpAnyH_ready (rs := [7]) (by kernel_rfl) (by simp) (AllReadyH.cons rfl (fun K hK => ?_) AllReadyH.nil)
         rw [if_pos (by kernel_rfl)]
         refine wp_cap_putD rfl _ _ rfl 0 rfl HB.out (C2.kind + 1) rfl { C2 with kind := C2.kind + 1 } rfl ?_
         intro ws hb5 hg5 hs5
         replace HB := hide hb5
         replace HZ := hide (HZ.out.grown hg5 (by intro h; injection h with h; omega))
         have HX := hide (hHeld.grown hg5 hHeld.size (by intro k hk; simp at hk; omega))
         clear hb5 hg5 hs5
         refine hK.out _ _ HX.out (fun hHeld => ?_)
         clear HX hK K
         try simp only [Act.put, s1_, s2_, s3_]
         refine take_e 27 (i := 8) (v := .pointer (some ⟨g, 1, none⟩)) rfl (by kernel_rfl) (Or.inl ⟨by kernel_rfl, fun w' hS => exec_field _ 1 1 rfl g rfl rfl⟩) hHeld ?_
         try simp only [Act.put, s1_, s2_, s3_]
         refine wpAnyH_ready (rs := [9]) (by kernel_rfl) (by simp) (AllReadyH.cons rfl (fun K hK => ?_) AllReadyH.nil)
         rw [if_pos (by kernel_rfl)]
         refine wp_cap_putKeyD rfl _ _ rfl rfl HB.out KR HKR.out.symm HKL.out ?_
         intro ws hb5 hg5 hs5
         replace HB := hide hb5
         replace HZ := hide (HZ.out.grown hg5 (by intro h; injection h with h; omega))
         have HX := hide (hHeld.grown hg5 hHeld.size (by intro k hk; simp at hk; omega))
         clear hb5 hg5 hs5
         refine hK.out _ _ HX.out (fun hHeld => ?_)
         clear HX hK K
         try simp only [Act.put, s1_, s2_, s3_]
         refine wpAnyH_done (by kernel_rfl) ?_ _
         replace HW := hide hHeld
         clear hHeld
         go_wp2_with (first
          | (refine wpList_cap_putLit _ _ rfl rfl rfl HB.out (.slice none 0 0) rfl rfl [] ?_; intro w6 hb6 hg6 hs6; replace HB := hide (show CapB w6 g C1 (.slice none 0 0) from (by rw [← HC1L.out]; exact hb6)); replace HZ := hide (HZ.out.grown hg6 (by intro h; injection h with h; omega)); replace HW := hide (HW.out.grown hg6 HW.out.size (by intro k hk; simp at hk; omega)); clear hb6 hg6)
          | (refine wpList_cap_all _ rfl rfl rfl HB.out ?_)
          | (refine wpList_cap_putAll _ _ rfl rfl rfl HZ.out C1 (.slice none 0 0) rfl HB.out.keyL HB.out.fpL HB.out.one ?_; intro w7 hb7 hg7 hs7; replace HZ := hide hb7; replace HW := hide (HW.out.grown hg7 HW.out.size (by intro k hk; simp at hk; omega)); clear hb7 hg7))
         refine bodyPost_ret (results_cap_err rfl _ _ (g + 1) _ _ rfl HZ.out _ rfl) rfl ?_
         exact ⟨_, rfl, by rw [HC1N.out]; exact Bs.nil_ _ _, HW.out⟩
        case q8_5 =>
         rw [if_pos (by kernel_rfl)]
         try go_simp
         refine (HSH.out _ ((HT.out.below hHeld (Nat.le_refl _)).more hHeld.size)).mono ?_
         rintro e wc ⟨rfl, hb⟩
         have HX := hide (hHeld.trans (hb.mono hHeld.size))
         replace HB := hide (HB.out.below hb HB.out.lt)
         replace HZ := hide (HZ.out.below hb HZ.out.lt)
         clear hb
         refine hK.out _ _ HX.out (fun hHeld => ?_)
         clear HX hK K
         try simp only [Act.put, s1_, s2_, s3_]
         refine wpAnyH_ready (rs := [1]) (by kernel_rfl) (by simp) (AllReadyH.cons rfl (fun K hK => ?_) AllReadyH.nil)
         rw [if_pos (by kernel_rfl)]
         refine wp_cap_intD 21 rfl _ rfl 0 rfl HB.out _ rfl ?_
         refine hK.out _ _ hHeld (fun hHeld => ?_)
         clear hK K
         try simp only [Act.put, s1_, s2_, s3_]
         refine take_e 22 (i := 2) (v := .int .i64 (C2.kind + 1)) rfl (by kernel_rfl) (Or.inl ⟨by kernel_rfl, fun w' hS => exec_i64_add _ _ _ rfl _ _ _ rfl rfl (IntWalk.i64_in _ (by omega))⟩) hHeld ?_
         try simp only [Act.put, s1_, s2_, s3_]
         refine take_e 26 (i := 6) (v := .pointer (some ⟨g, 0, none⟩)) rfl (by kernel_rfl) (Or.inl ⟨by kernel_rfl, fun w' hS => exec_field _ 0 0 rfl g rfl rfl⟩) hHeld ?_
         try simp only [Act.put, s1_, s2_, s3_]
         refine wpAnyH_ready (rs := [7]) (by kernel_rfl) (by simp) (AllReadyH.cons rfl (fun K hK => ?_) AllReadyH.nil)
         rw [if_pos (by kernel_rfl)]
         refine wp_cap_putD rfl _ _ rfl 0 rfl HB.out (C2.kind + 1) rfl { C2 with kind := C2.kind + 1 } rfl ?_
         intro ws hb5 hg5 hs5
         replace HB := hide hb5
         replace HZ := hide (HZ.out.grown hg5 (by intro h; injection h with h; omega))
         have HX := hide (hHeld.grown hg5 hHeld.size (by intro k hk; simp at hk; omega))
         clear hb5 hg5 hs5
         refine hK.out _ _ HX.out (fun hHeld => ?_)
         clear HX hK K
         try simp only [Act.put, s1_, s2_, s3_]
         refine take_e 27 (i := 8) (v := .pointer (some ⟨g, 1, none⟩)) rfl (by kernel_rfl) (Or.inl ⟨by kernel_rfl, fun w' hS => exec_field _ 1 1 rfl g rfl rfl⟩) hHeld ?_
         try simp only [Act.put, s1_, s2_, s3_]
         refine wpAnyH_ready (rs := [9]) (by kernel_rfl) (by simp) (AllReadyH.cons rfl (fun K hK => ?_) AllReadyH.nil)
         rw [if_pos (by kernel_rfl)]
         refine wp_cap_putKeyD rfl _ _ rfl rfl HB.out KR HKR.out.symm HKL.out ?_
         intro ws hb5 hg5 hs5
         replace HB := hide hb5
         replace HZ := hide (HZ.out.grown hg5 (by intro h; injection h with h; omega))
         have HX := hide (hHeld.grown hg5 hHeld.size (by intro k hk; simp at hk; omega))
         clear hb5 hg5 hs5
         refine hK.out _ _ HX.out (fun hHeld => ?_)
         clear HX hK K
         try simp only [Act.put, s1_, s2_, s3_]
         refine wpAnyH_done (by kernel_rfl) ?_ _
         replace HW := hide hHeld
         clear hHeld
         go_wp2_with (first
          | (refine wpList_cap_putLit _ _ rfl rfl rfl HB.out (.slice none 0 0) rfl rfl [] ?_; intro w6 hb6 hg6 hs6; replace HB := hide (show CapB w6 g C1 (.slice none 0 0) from (by rw [← HC1L.out]; exact hb6)); replace HZ := hide (HZ.out.grown hg6 (by intro h; injection h with h; omega)); replace HW := hide (HW.out.grown hg6 HW.out.size (by intro k hk; simp at hk; omega)); clear hb6 hg6)
          | (refine wpList_cap_all _ rfl rfl rfl HB.out ?_)
          | (refine wpList_cap_putAll _ _ rfl rfl rfl HZ.out C1 (.slice none 0 0) rfl HB.out.keyL HB.out.fpL HB.out.one ?_; intro w7 hb7 hg7 hs7; replace HZ := hide hb7; replace HW := hide (HW.out.grown hg7 HW.out.size (by intro k hk; simp at hk; omega)); clear hb7 hg7))
         refine bodyPost_ret (results_cap_err rfl _ _ (g + 1) _ _ rfl HZ.out _ rfl) rfl ?_
         exact ⟨_, rfl, by rw [HC1N.out]; exact Bs.nil_ _ _, HW.out⟩
     · have HRD := hide (fun w => by have := read_any c lit w hc; rw [Bool.not_eq_true _ |>.mp hr, HCV.out] at this; exact this)
       have HC1L := hide (show ({ c with lit := [] } : CapD) = C1 by
        rw [← HC1.out]
        unfold voF
        rw [if_pos hok, if_neg hr, ← hcl])
       rw [HC1.out, HE.out]
       clear hv hc hwf hl ht h3 hok hVd hcl hr
       rw [HCV.out]
       go_enter Tryd.func33, Tryd.ntmps33
       obtain ⟨g, hg⟩ : ∃ n, w.heap.size = n := ⟨_, rfl⟩
       go_wp2_with (first
        | go_skip
        | (refine wpList_cap_new _ rfl HCV.out.symm rfl H1.out H2.out H3.out ?_; intro w1 hb1 hw1 hs1; rw [hg] at hb1 ⊢; have HB := hide hb1; have HW := hide hw1; clear hb1 hw1)
        | (refine wpList_cap_zero rfl rfl ?_; rw [HNN.out]; intro w2 hb2 hw2 hs2; have hg2 : w1.heap.size = g + 1 := (by omega); rw [hg2] at hb2; try rw [hg2]; have HZ := hide hb2; replace HB := hide (HB.out.below hw2 HB.out.lt); replace HW := hide (HW.out.trans (hw2.mono HW.out.size)); clear hb2 hw2)
        | (refine wpList_cap_all _ rfl rfl rfl HB.out ?_; rw [HCV.out]))
       refine (HVA.out _).mono ?_
       rintro e w3 ⟨rfl, hb3⟩
       replace HB := hide (HB.out.below hb3 HB.out.lt)
       replace HZ := hide (HZ.out.below hb3 HZ.out.lt)
       replace HW := hide (HW.out.trans (hb3.mono HW.out.size))
       clear hb3
       go_wp2_with (first
        | go_skip
        | (refine wpList_cap_int _ rfl _ rfl rfl HB.out _ rfl ?_)
        | (refine wpList_cap_all _ rfl rfl rfl HB.out ?_; rw [HCV.out]))
       refine (HRD.out _).mono ?_
       rintro e w3 ⟨rfl, hb3⟩
       replace HB := hide (HB.out.below hb3 HB.out.lt)
       replace HZ := hide (HZ.out.below hb3 HZ.out.lt)
       replace HW := hide (HW.out.trans (hb3.mono HW.out.size))
       clear hb3
       go_wp2_with (first
        | (refine wpList_cap_putLit _ _ rfl rfl rfl HB.out (.slice none 0 0) rfl rfl [] ?_; intro w6 hb6 hg6 hs6; replace HB := hide (show CapB w6 g C1 (.slice none 0 0) from (by rw [← HC1L.out]; exact hb6)); replace HZ := hide (HZ.out.grown hg6 (by intro h; injection h with h; omega)); replace HW := hide (HW.out.grown hg6 HW.out.size (by intro k hk; simp at hk; omega)); clear hb6 hg6)
        | (refine wpList_cap_all _ rfl rfl rfl HB.out ?_)
        | (refine wpList_cap_putAll _ _ rfl rfl rfl HZ.out C1 (.slice none 0 0) rfl HB.out.keyL HB.out.fpL HB.out.one ?_; intro w7 hb7 hg7 hs7; replace HZ := hide hb7; replace HW := hide (HW.out.grown hg7 HW.out.size (by intro k hk; simp at hk; omega)); clear hb7 hg7))
       refine bodyPost_ret (results_cap_err rfl _ _ (g + 1) _ _ rfl HZ.out _ rfl) rfl ?_
       exact ⟨_, rfl, by rw [HC1N.out]; exact Bs.nil_ _ _, HW.out⟩
 · have HVA := hide (fun w => by have := Valid_any c lit w hc; rw [Bool.not_eq_true _ |>.mp hv, HCV.out] at this; exact this)
   have HF := hide (show voF c = NN ∧ voE c = 11 by rw [← HNN.out]; unfold voF voE; simp [Bool.not_eq_true _ |>.mp hv])
   rw [HF.out.1, HF.out.2]
   clear hv hc hwf hl ht
   rw [HCV.out]
   go_enter Tryd.func33, Tryd.ntmps33
   obtain ⟨g, hg⟩ : ∃ n, w.heap.size = n := ⟨_, rfl⟩
   go_wp2_with (first
    | go_skip
    | (refine wpList_cap_new _ rfl HCV.out.symm rfl H1.out H2.out H3.out ?_; intro w1 hb1 hw1 hs1; rw [hg] at hb1 ⊢; have HB := hide hb1; have HW := hide hw1; clear hb1 hw1)
    | (refine wpList_cap_zero rfl rfl ?_; rw [HNN.out]; intro w2 hb2 hw2 hs2; have hg2 : w1.heap.size = g + 1 := (by omega); rw [hg2] at hb2; try rw [hg2]; have HZ := hide hb2; replace HB := hide (HB.out.below hw2 HB.out.lt); replace HW := hide (HW.out.trans (hw2.mono HW.out.size)); clear hb2 hw2)
    | (refine wpList_cap_all _ rfl rfl rfl HB.out ?_; rw [HCV.out]))
   refine (HVA.out _).mono ?_
   rintro e w3 ⟨rfl, hb3⟩
   replace HB := hide (HB.out.below hb3 HB.out.lt)
   replace HZ := hide (HZ.out.below hb3 HZ.out.lt)
   replace HW := hide (HW.out.trans (hb3.mono HW.out.size))
   clear hb3
   go_wp2_with (first
    | go_skip
    | (refine wpList_cap_int _ rfl _ rfl rfl HB.out _ rfl ?_)
    | (refine wpList_none_cap rfl rfl ?_; rw [HNN.out])
    | (refine wpList_cap_putAll _ _ rfl rfl rfl HZ.out NN (.slice none 0 0) rfl HN1.out HN2.out rfl ?_; intro w6 hb6 hg6 hs6; replace HZ := hide hb6; replace HW := hide (HW.out.grown hg6 HW.out.size (by intro k hk; simp at hk; omega)); clear hb6 hg6))
   refine bodyPost_ret (results_cap_err rfl _ _ (g + 1) _ _ rfl HZ.out _ rfl) rfl ?_
   exact ⟨_, rfl, by rw [HNL.out]; exact Bs.nil_ _ _, HW.out⟩
end Go.Proofs.YthdjgebbjogmiaaDoor

namespace Go.Proofs.YthdjgebbjogmiaaDoor
open Go Go.RowKit Go.ChangeShapes Go.WideShapes Go.ChangeAt
set_option maxRecDepth 100000

section
variable {H : Type} {enc : TypeId × Value → H} {W : World} {d : DataW H} {p : List MemPlace} {base : Nat}
set_option maxRecDepth 100000 in
theorem read_hash_hash {v : Value} {r : Reach} {b0 : Nat} (hv : Value.okWide Tryd.prog W r b0 25 v) (h : DataW.Trod enc Tryd.prog W base (fun _ => true) true 25 v d p) :
 ∃ z : List Int, v = .agg (u8s z).toArray ∧ z.length = 32 ∧ Bytes z := by
 simp only [Value.okWide, Tryd.underlying25] at hv
 obtain ⟨cs, rfl, h2, _⟩ := hv
 obtain ⟨fuel, hf⟩ := h
 obtain ⟨z, e, l, b⟩ := read_arr_cells Tryd.underlying25 (by kernel_rfl) hf
 have e' : cs.toList = u8s z := e
 exact ⟨z, by rw [← e'], l, b⟩
end
end Go.Proofs.YthdjgebbjogmiaaDoor
