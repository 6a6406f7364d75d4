/- caps.Dir: the same as a directory's. No condition. -/
import Derived.Test.YthdjgebbjogmiaaDoorCapRO
set_option linter.unusedVariables false
set_option linter.unusedSimpArgs false
namespace Go.Proofs.YthdjgebbjogmiaaDoor
open Go Go.RowKit
set_option linter.unusedVariables false
set_option linter.unusedSimpArgs false
set_option maxRecDepth 100000
set_option maxHeartbeats 8000000
theorem Dir_any (c : CapD) (lit : Value) (w : World) (hwf : c.Wf) (hl : Bs w w.heap.size lit c.lit) (hn : c.lit.length ≤ 1000000) :
 Calls Tryd.prog 29 #[capV c lit] w fun e w' => ∃ l', e = .returned (.tuple #[capV (dirF c) l', .int .i64 (dirE c)]) ∧ Bs w' w'.heap.size l' (dirF c).lit ∧ Below w.heap.size w w' := by
 have hc := capV_of hwf.keyL hwf.fpL hl
 have H1 := hide hwf.keyL
 have H2 := hide hwf.fpL
 have H3 := hide hl.one
 have HL := hide hl
 have HLB := hide hwf.litB
 have HWF := hide hwf
 obtain ⟨NN, HNN⟩ : ∃ x, Hid (CapD.none_ = x) := ⟨_, hide rfl⟩
 have HN1 := hide (show NN.key.length = 16 by rw [← HNN.out]; rfl)
 have HN2 := hide (show NN.fp.length = 32 by rw [← HNN.out]; rfl)
 have HNL := hide (show NN.lit = [] by rw [← HNN.out]; rfl)
 obtain ⟨CV, HCV⟩ : ∃ x, Hid (capV c lit = x) := ⟨_, hide rfl⟩
 by_cases hv : decide c.Valid = true
 · have HVA := hide (fun w => by have := Valid_any c lit w hc; rw [hv, HCV.out] at this; exact this)
   by_cases h4 : c.kind < 4
   · have h4' : ¬ 4 ≤ c.kind := by omega
     have d4 : decide (c.kind < 4) = true := by simp [h4]
     have HF := hide (show dirF c = NN ∧ dirE c = 11 by rw [← HNN.out]; unfold dirF dirE dirOk; simp [h4'])
     rw [HF.out.1, HF.out.2]
     clear hv hc hwf hl
     rw [HCV.out]
     go_enter Tryd.func29, Tryd.ntmps29
     obtain ⟨g, hg⟩ : ∃ n, w.heap.size = n := ⟨_, rfl⟩
     go_wp2_with (first
      | go_skip
      | (refine wpList_cap_new _ rfl HCV.out.symm rfl H1.out H2.out H3.out ?_; intro w1 hb1 hw1 hs1; rw [hg] at hb1 ⊢; have HB := hide hb1; have HW := hide hw1; clear hb1 hw1)
      | (refine wpList_cap_zero rfl rfl ?_; rw [HNN.out]; intro w2 hb2 hw2 hs2; have hg2 : w1.heap.size = g + 1 := (by omega); rw [hg2] at hb2; try rw [hg2]; have HZ := hide hb2; replace HB := hide (HB.out.below hw2 HB.out.lt); replace HW := hide (HW.out.trans (hw2.mono HW.out.size)); clear hb2 hw2)
      | (refine wpList_cap_all _ rfl rfl rfl HB.out ?_; rw [HCV.out]))
     refine (HVA.out _).mono ?_
     rintro e w3 ⟨rfl, hb3⟩
     replace HB := hide (HB.out.below hb3 HB.out.lt)
     replace HZ := hide (HZ.out.below hb3 HZ.out.lt)
     replace HW := hide (HW.out.trans (hb3.mono HW.out.size))
     clear hb3
     go_wp2_with (first
      | go_skip
      | (refine wpList_cap_int _ rfl _ rfl rfl HB.out _ rfl ?_)
      | (refine wpList_none_cap rfl rfl ?_; rw [HNN.out])
      | (refine wpList_cap_putAll _ _ rfl rfl rfl HZ.out NN (.slice none 0 0) rfl HN1.out HN2.out rfl ?_; intro w6 hb6 hg6 hs6; replace HZ := hide hb6; replace HW := hide (HW.out.grown hg6 HW.out.size (by intro k hk; simp at hk; omega)); clear hb6 hg6))
     refine bodyPost_ret (results_cap_err rfl _ _ (g + 1) _ _ rfl HZ.out _ rfl) rfl ?_
     exact ⟨_, rfl, by rw [HNL.out]; exact Bs.nil_ _ _, HW.out⟩
   · have d4 : decide (c.kind < 4) = false := by simp; omega
     by_cases h6 : 6 < c.kind
     · have h6' : ¬ c.kind ≤ 6 := by omega
       have d6 : decide (6 < c.kind) = true := by simp [h6]
       have HF := hide (show dirF c = NN ∧ dirE c = 11 by rw [← HNN.out]; unfold dirF dirE dirOk; simp [h6'])
       rw [HF.out.1, HF.out.2]
       clear hv hc hwf hl
       rw [HCV.out]
       go_enter Tryd.func29, Tryd.ntmps29
       obtain ⟨g, hg⟩ : ∃ n, w.heap.size = n := ⟨_, rfl⟩
       go_wp2_with (first
        | go_skip
        | (refine wpList_cap_new _ rfl HCV.out.symm rfl H1.out H2.out H3.out ?_; intro w1 hb1 hw1 hs1; rw [hg] at hb1 ⊢; have HB := hide hb1; have HW := hide hw1; clear hb1 hw1)
        | (refine wpList_cap_zero rfl rfl ?_; rw [HNN.out]; intro w2 hb2 hw2 hs2; have hg2 : w1.heap.size = g + 1 := (by omega); rw [hg2] at hb2; try rw [hg2]; have HZ := hide hb2; replace HB := hide (HB.out.below hw2 HB.out.lt); replace HW := hide (HW.out.trans (hw2.mono HW.out.size)); clear hb2 hw2)
        | (refine wpList_cap_all _ rfl rfl rfl HB.out ?_; rw [HCV.out]))
       refine (HVA.out _).mono ?_
       rintro e w3 ⟨rfl, hb3⟩
       replace HB := hide (HB.out.below hb3 HB.out.lt)
       replace HZ := hide (HZ.out.below hb3 HZ.out.lt)
       replace HW := hide (HW.out.trans (hb3.mono HW.out.size))
       clear hb3
       go_wp2_with (first
        | go_skip
        | (refine wpList_cap_int _ rfl _ rfl rfl HB.out _ rfl ?_)
        | (refine wpList_none_cap rfl rfl ?_; rw [HNN.out])
        | (refine wpList_cap_putAll _ _ rfl rfl rfl HZ.out NN (.slice none 0 0) rfl HN1.out HN2.out rfl ?_; intro w6 hb6 hg6 hs6; replace HZ := hide hb6; replace HW := hide (HW.out.grown hg6 HW.out.size (by intro k hk; simp at hk; omega)); clear hb6 hg6))
       refine bodyPost_ret (results_cap_err rfl _ _ (g + 1) _ _ rfl HZ.out _ rfl) rfl ?_
       exact ⟨_, rfl, by rw [HNL.out]; exact Bs.nil_ _ _, HW.out⟩
     · have h4' : 4 ≤ c.kind := by omega
       have h6' : c.kind ≤ 6 := by omega
       have d6 : decide (6 < c.kind) = false := by simp; omega
       have hok : dirOk c = true := by unfold dirOk; rw [hv]; simp [h4', h6']
       have hcl : c.lit = [] := valid_lit (of_decide_eq_true hv) (by omega)
       have HE := hide (show dirE c = 0 by unfold dirE; rw [if_pos hok])
       obtain ⟨C1, HC1⟩ : ∃ x, Hid (dirF c = x) := ⟨_, hide rfl⟩
       have HC1E := hide (show ({ c with kind := c.kind + 3 } : CapD) = C1 by rw [← HC1.out]; unfold dirF; rw [if_pos hok])
       have HC1L := hide (show ({ c with kind := c.kind + 3, lit := [] } : CapD) = C1 by rw [← HC1E.out, ← hcl])
       have HC1N := hide (show C1.lit = [] by rw [← HC1E.out]; exact hcl)
       rw [HC1.out, HE.out]
       clear hv hc hwf hl hok hcl
       rw [HCV.out]
       go_enter Tryd.func29, Tryd.ntmps29
       obtain ⟨g, hg⟩ : ∃ n, w.heap.size = n := ⟨_, rfl⟩
       go_wp2_with (first
        | go_skip
        | (refine wpList_cap_new _ rfl HCV.out.symm rfl H1.out H2.out H3.out ?_; intro w1 hb1 hw1 hs1; rw [hg] at hb1 ⊢; have HB := hide hb1; have HW := hide hw1; clear hb1 hw1)
        | (refine wpList_cap_zero rfl rfl ?_; rw [HNN.out]; intro w2 hb2 hw2 hs2; have hg2 : w1.heap.size = g + 1 := (by omega); rw [hg2] at hb2; try rw [hg2]; have HZ := hide hb2; replace HB := hide (HB.out.below hw2 HB.out.lt); replace HW := hide (HW.out.trans (hw2.mono HW.out.size)); clear hb2 hw2)
        | (refine wpList_cap_all _ rfl rfl rfl HB.out ?_; rw [HCV.out]))
       refine (HVA.out _).mono ?_
       rintro e w3 ⟨rfl, hb3⟩
       replace HB := hide (HB.out.below hb3 HB.out.lt)
       replace HZ := hide (HZ.out.below hb3 HZ.out.lt)
       replace HW := hide (HW.out.trans (hb3.mono HW.out.size))
       clear hb3
       go_wp2_with (first
        | go_skip
        | (refine wpList_cap_int _ rfl _ rfl rfl HB.out _ rfl ?_)
        | (refine wpList_cap_put _ _ rfl 0 rfl rfl HB.out (c.kind + 3) rfl { c with kind := c.kind + 3 } rfl ?_; intro w6 hb6 hg6 hs6; replace HB := hide hb6; replace HZ := hide (HZ.out.grown hg6 (by intro h; injection h with h; omega)); replace HW := hide (HW.out.grown hg6 HW.out.size (by intro k hk; simp at hk; omega)); clear hb6 hg6)
        | (refine wpList_cap_putLit _ _ rfl rfl rfl HB.out (.slice none 0 0) rfl rfl [] ?_; intro w6 hb6 hg6 hs6; replace HB := hide (show CapB w6 g C1 (.slice none 0 0) from (by rw [← HC1L.out]; exact hb6)); replace HZ := hide (HZ.out.grown hg6 (by intro h; injection h with h; omega)); replace HW := hide (HW.out.grown hg6 HW.out.size (by intro k hk; simp at hk; omega)); clear hb6 hg6)
        | (refine wpList_cap_all _ rfl rfl rfl HB.out ?_)
        | (refine wpList_cap_putAll _ _ rfl rfl rfl HZ.out C1 (.slice none 0 0) rfl HB.out.keyL HB.out.fpL HB.out.one ?_; intro w7 hb7 hg7 hs7; replace HZ := hide hb7; replace HW := hide (HW.out.grown hg7 HW.out.size (by intro k hk; simp at hk; omega)); clear hb7 hg7))
       refine bodyPost_ret (results_cap_err rfl _ _ (g + 1) _ _ rfl HZ.out _ rfl) rfl ?_
       exact ⟨_, rfl, by rw [HC1N.out]; exact Bs.nil_ _ _, HW.out⟩
 · have HVA := hide (fun w => by have := Valid_any c lit w hc; rw [Bool.not_eq_true _ |>.mp hv, HCV.out] at this; exact this)
   have HF := hide (show dirF c = NN ∧ dirE c = 11 by rw [← HNN.out]; unfold dirF dirE dirOk; simp [Bool.not_eq_true _ |>.mp hv])
   rw [HF.out.1, HF.out.2]
   clear hv hc hwf hl
   rw [HCV.out]
   go_enter Tryd.func29, Tryd.ntmps29
   obtain ⟨g, hg⟩ : ∃ n, w.heap.size = n := ⟨_, rfl⟩
   go_wp2_with (first
    | go_skip
    | (refine wpList_cap_new _ rfl HCV.out.symm rfl H1.out H2.out H3.out ?_; intro w1 hb1 hw1 hs1; rw [hg] at hb1 ⊢; have HB := hide hb1; have HW := hide hw1; clear hb1 hw1)
    | (refine wpList_cap_zero rfl rfl ?_; rw [HNN.out]; intro w2 hb2 hw2 hs2; have hg2 : w1.heap.size = g + 1 := (by omega); rw [hg2] at hb2; try rw [hg2]; have HZ := hide hb2; replace HB := hide (HB.out.below hw2 HB.out.lt); replace HW := hide (HW.out.trans (hw2.mono HW.out.size)); clear hb2 hw2)
    | (refine wpList_cap_all _ rfl rfl rfl HB.out ?_; rw [HCV.out]))
   refine (HVA.out _).mono ?_
   rintro e w3 ⟨rfl, hb3⟩
   replace HB := hide (HB.out.below hb3 HB.out.lt)
   replace HZ := hide (HZ.out.below hb3 HZ.out.lt)
   replace HW := hide (HW.out.trans (hb3.mono HW.out.size))
   clear hb3
   go_wp2_with (first
    | go_skip
    | (refine wpList_cap_int _ rfl _ rfl rfl HB.out _ rfl ?_)
    | (refine wpList_none_cap rfl rfl ?_; rw [HNN.out])
    | (refine wpList_cap_putAll _ _ rfl rfl rfl HZ.out NN (.slice none 0 0) rfl HN1.out HN2.out rfl ?_; intro w6 hb6 hg6 hs6; replace HZ := hide hb6; replace HW := hide (HW.out.grown hg6 HW.out.size (by intro k hk; simp at hk; omega)); clear hb6 hg6))
   refine bodyPost_ret (results_cap_err rfl _ _ (g + 1) _ _ rfl HZ.out _ rfl) rfl ?_
   exact ⟨_, rfl, by rw [HNL.out]; exact Bs.nil_ _ _, HW.out⟩
end Go.Proofs.YthdjgebbjogmiaaDoor
