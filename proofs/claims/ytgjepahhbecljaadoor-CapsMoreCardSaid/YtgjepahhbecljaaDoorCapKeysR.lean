/- The document's ReadOnly: what may only read the same. No condition.
The document's VerifyOnly: what may only verify the same. No condition.
The document's Index: where a capability's bytes are kept. No condition.
The document's Slot: a slot's capability, of a seed and a print. No condition.
The document's Dir: the same as a directory's. No condition.
The document's Enabler, Renewal: as the program's. No condition. -/
import Derived.Test.YtgjepahhbecljaaDoorCapKeys
import Derived.Test.YtgjepahhbecljaaDoorShaRef
namespace Go.Proofs.YtgjepahhbecljaaDoor
open Go Go.RowKit
set_option linter.unusedVariables false
set_option linter.unusedSimpArgs false
set_option maxRecDepth 100000
set_option maxHeartbeats 8000000
theorem ReadOnly_ref (c : CapD) (lit : Value) (w : World) (hwf : c.Wf) (hl : Bs w w.heap.size lit c.lit) (hn : c.lit.length ≤ 1000000) :
    Calls Tryd.prog 40 #[capV c lit] w fun e w' => ∃ l', e = .returned (.tuple #[capV (roF c) l', .int .i64 (roE c)]) ∧ Bs w' w'.heap.size l' (roF c).lit ∧ Below w.heap.size w w' := by
  have hc := capV_of hwf.keyL hwf.fpL hl
  have H1 := hide hwf.keyL
  have H2 := hide hwf.fpL
  have H3 := hide hl.one
  have HL := hide hl
  have HLB := hide hwf.litB
  have HWF := hide hwf
  obtain ⟨NN, HNN⟩ : ∃ x, Hid (CapD.none_ = x) := ⟨_, hide rfl⟩
  have HN1 := hide (show NN.key.length = 16 by rw [← HNN.out]; rfl)
  have HN2 := hide (show NN.fp.length = 32 by rw [← HNN.out]; rfl)
  have HNL := hide (show NN.lit = [] by rw [← HNN.out]; rfl)
  obtain ⟨CV, HCV⟩ : ∃ x, Hid (capV c lit = x) := ⟨_, hide rfl⟩
  by_cases hr : readF c = true
  · have HRD := hide (fun w => by have := read_ref c lit w hc; rw [hr, HCV.out] at this; exact this)
    have HE := hide (show roE c = 0 by unfold roE; rw [if_pos hr])
    have hkd := valid_kind (readF_kind hr).1
    by_cases hw : writeF c = true
    · have HWR := hide (fun w => by have := write_ref c lit w hc; rw [hw, HCV.out] at this; exact this)
      obtain ⟨KR, HKR0⟩ : ∃ x, Hid (keyF tRead c.key = x) := ⟨_, hide rfl⟩
      have HKL := hide (show KR.length = 16 by rw [← HKR0.out]; exact keyF_len _ _)
      have HSHT := hide (show shortF (strB tRead) [c.key] = KR from HKR0.out)
      have HKB := hide hwf.keyB
      have HKLn := hide hwf.keyL
      obtain ⟨C1K, HC1⟩ : ∃ x, Hid (roF c = x) := ⟨_, hide rfl⟩
      have HC1E := hide (show { c with kind := c.kind + 1, key := KR } = C1K by rw [← HC1.out, ← HKR0.out]; unfold roF; rw [if_pos hr, if_pos hw])
      have HC1L := hide (show { C1K with lit := c.lit } = C1K by rw [← HC1E.out])
      have HCL := hide (show C1K.lit = c.lit by rw [← HC1E.out])
      rw [HC1.out, HE.out]
      clear hr hw hc hwf hl
      rw [HCV.out]
      go_enter Tryd.func40, Tryd.ntmps40
      obtain ⟨g, hg⟩ : ∃ n, w.heap.size = n := ⟨_, rfl⟩
      go_wp2_with (first
          | (refine wpList_cap_new _ rfl HCV.out.symm rfl H1.out H2.out H3.out ?_; intro w1 hb1 hw1 hs1; rw [hg] at hb1 ⊢; have HB := hide hb1; have HW := hide hw1; clear hb1 hw1)
          | (refine wpList_cap_zero rfl rfl ?_; rw [HNN.out]; intro w2 hb2 hw2 hs2; have hg2 : w1.heap.size = g + 1 := (by omega); rw [hg2] at hb2; try rw [hg2]; have HZ := hide hb2; replace HB := hide (HB.out.below hw2 HB.out.lt); replace HW := hide (HW.out.trans (hw2.mono HW.out.size)); clear hb2 hw2)
          | (refine wpList_cap_all _ rfl rfl rfl HB.out ?_; rw [HCV.out]))
      refine (HRD.out _).mono ?_
      rintro e w3 ⟨rfl, hb3⟩
      replace HB := hide (HB.out.below hb3 HB.out.lt)
      replace HZ := hide (HZ.out.below hb3 HZ.out.lt)
      replace HW := hide (HW.out.trans (hb3.mono HW.out.size))
      clear hb3
      go_wp2_with (refine wpList_cap_all _ rfl rfl rfl HB.out ?_; rw [HCV.out])
      refine (HWR.out _).mono ?_
      rintro e w3 ⟨rfl, hb3⟩
      replace HB := hide (HB.out.below hb3 HB.out.lt)
      replace HZ := hide (HZ.out.below hb3 HZ.out.lt)
      replace HW := hide (HW.out.trans (hb3.mono HW.out.size))
      clear hb3
      go_wp2_with (refine wpList_rows1 rfl _ rfl (.slice (some ⟨g, 1, none⟩) 16 16) rfl rfl ?_; intro wd hbd hwd; replace HB := hide (HB.out.below hwd HB.out.lt); have HRW := hide (rows_one hbd (HB.out.keyRow HB.out.lt)); replace HZ := hide (HZ.out.below hwd HZ.out.lt); replace HW := hide (HW.out.trans (hwd.mono HW.out.size)); clear hbd hwd)
      have hcall := Short_ref tRead _ [c.key] _ HRW.out (by intro x hx; simp at hx; subst hx; exact HKB.out) (by intro x hx; simp at hx; subst hx; have := HKLn.out; omega) (by simp) (by decide)
      rw [HSHT.out] at hcall
      refine hcall.mono ?_
      clear hcall
      rintro e w4 ⟨rfl, hb⟩
      replace HB := hide (HB.out.below hb HB.out.lt)
      replace HZ := hide (HZ.out.below hb HZ.out.lt)
      replace HW := hide (HW.out.trans (hb.mono HW.out.size))
      clear hb HRW
      go_wp2_with (first
          | (refine wpList_cap_putKey _ _ rfl rfl rfl HB.out KR rfl HKL.out ?_; intro w6 hb6 hg6 hs6; replace HB := hide hb6; replace HZ := hide (HZ.out.grown hg6 (by intro h; injection h with h; omega)); replace HW := hide (HW.out.grown hg6 HW.out.size (by intro k hk; simp at hk; omega)); clear hb6 hg6)
          | (refine wpList_cap_put _ _ rfl 0 rfl rfl HB.out (c.kind + 1) rfl { c with kind := c.kind + 1, key := KR } rfl ?_; intro w6 hb6 hg6 hs6; replace HB := hide (show CapB w6 g C1K lit from (by rw [← HC1E.out]; exact hb6)); replace HZ := hide (HZ.out.grown hg6 (by intro h; injection h with h; omega)); replace HW := hide (HW.out.grown hg6 HW.out.size (by intro k hk; simp at hk; omega)); clear hb6 hg6)
          | (refine wpList_cap_int _ rfl 0 rfl rfl HB.out c.kind rfl ?_)
          | (refine wpList_cap_lit _ rfl rfl rfl HB.out ?_)
          | (at_builtin; refine wpList_append_B rfl _ _ rfl (g + 2) (.slice none 0 0) [] rfl (RowB.nil_ _ _) w.heap.size lit c.lit rfl (HL.out.below HW.out (Nat.le_refl _)) HLB.out (by simp; omega) (by have := HZ.out.lt; omega) ?_; intro l5 w5 ho5 hg5; rw [List.nil_append] at ho5; have HO5 := hide ho5; have L5 := hide ho5.one; replace HB := hide (HB.out.grown hg5 (by simp [Value.ownBlock])); replace HZ := hide (HZ.out.grown hg5 (by simp [Value.ownBlock])); replace HW := hide (HW.out.grown hg5 HW.out.size (by intro k hk; simp [Value.ownBlock] at hk)); clear ho5 hg5)
          | (refine wpList_cap_putLit _ _ rfl rfl rfl HB.out l5 rfl L5.out c.lit ?_; intro w6 hb6 hg6 hs6; replace HB := hide (show CapB w6 g C1K l5 from (by rw [← HC1L.out]; exact hb6)); replace HZ := hide (HZ.out.grown hg6 (by intro h; injection h with h; omega)); replace HO5 := hide (RowB.off HO5.out hg6 (by omega)); replace HW := hide (HW.out.grown hg6 HW.out.size (by intro k hk; simp at hk; omega)); clear hb6 hg6)
          | (refine wpList_cap_all _ rfl rfl rfl HB.out ?_)
          | (refine wpList_cap_putAll _ _ rfl rfl rfl HZ.out C1K l5 rfl HB.out.keyL HB.out.fpL HB.out.one ?_; intro w7 hb7 hg7 hs7; replace HZ := hide hb7; replace HO5 := hide (RowB.off HO5.out hg7 (by omega)); replace HW := hide (HW.out.grown hg7 HW.out.size (by intro k hk; simp at hk; omega)); clear hb7 hg7))
      refine bodyPost_ret (results_cap_err rfl _ _ (g + 1) _ _ rfl HZ.out _ rfl) rfl ?_
      exact ⟨l5, rfl, by rw [HCL.out]; exact HO5.out.reads, HW.out⟩
    · have HWR := hide (fun w => by have := write_ref c lit w hc; rw [Bool.not_eq_true _ |>.mp hw, HCV.out] at this; exact this)
      obtain ⟨C1, HC1⟩ : ∃ x, Hid (c = x) := ⟨_, hide rfl⟩
      have HC1E := hide (show roF c = C1 by rw [← HC1.out]; unfold roF; rw [if_pos hr, if_neg hw])
      have HC1L := hide (show { c with lit := c.lit } = C1 from HC1.out)
      have HCL := hide (show C1.lit = c.lit by rw [← HC1.out])
      rw [HC1E.out, HE.out]
      clear hr hw hc hwf hl
      rw [HCV.out]
      go_enter Tryd.func40, Tryd.ntmps40
      obtain ⟨g, hg⟩ : ∃ n, w.heap.size = n := ⟨_, rfl⟩
      go_wp2_with (first
          | (refine wpList_cap_new _ rfl HCV.out.symm rfl H1.out H2.out H3.out ?_; intro w1 hb1 hw1 hs1; rw [hg] at hb1 ⊢; have HB := hide hb1; have HW := hide hw1; clear hb1 hw1)
          | (refine wpList_cap_zero rfl rfl ?_; rw [HNN.out]; intro w2 hb2 hw2 hs2; have hg2 : w1.heap.size = g + 1 := (by omega); rw [hg2] at hb2; try rw [hg2]; have HZ := hide hb2; replace HB := hide (HB.out.below hw2 HB.out.lt); replace HW := hide (HW.out.trans (hw2.mono HW.out.size)); clear hb2 hw2)
          | (refine wpList_cap_all _ rfl rfl rfl HB.out ?_; rw [HCV.out]))
      refine (HRD.out _).mono ?_
      rintro e w3 ⟨rfl, hb3⟩
      replace HB := hide (HB.out.below hb3 HB.out.lt)
      replace HZ := hide (HZ.out.below hb3 HZ.out.lt)
      replace HW := hide (HW.out.trans (hb3.mono HW.out.size))
      clear hb3
      go_wp2_with (refine wpList_cap_all _ rfl rfl rfl HB.out ?_; rw [HCV.out])
      refine (HWR.out _).mono ?_
      rintro e w3 ⟨rfl, hb3⟩
      replace HB := hide (HB.out.below hb3 HB.out.lt)
      replace HZ := hide (HZ.out.below hb3 HZ.out.lt)
      replace HW := hide (HW.out.trans (hb3.mono HW.out.size))
      clear hb3
      go_wp2_with (first
          | (refine wpList_cap_lit _ rfl rfl rfl HB.out ?_)
          | (at_builtin; refine wpList_append_B rfl _ _ rfl (g + 2) (.slice none 0 0) [] rfl (RowB.nil_ _ _) w.heap.size lit c.lit rfl (HL.out.below HW.out (Nat.le_refl _)) HLB.out (by simp; omega) (by have := HZ.out.lt; omega) ?_; intro l5 w5 ho5 hg5; rw [List.nil_append] at ho5; have HO5 := hide ho5; have L5 := hide ho5.one; replace HB := hide (HB.out.grown hg5 (by simp [Value.ownBlock])); replace HZ := hide (HZ.out.grown hg5 (by simp [Value.ownBlock])); replace HW := hide (HW.out.grown hg5 HW.out.size (by intro k hk; simp [Value.ownBlock] at hk)); clear ho5 hg5)
          | (refine wpList_cap_putLit _ _ rfl rfl rfl HB.out l5 rfl L5.out c.lit ?_; intro w6 hb6 hg6 hs6; replace HB := hide (show CapB w6 g C1 l5 from (by rw [← HC1L.out]; exact hb6)); replace HZ := hide (HZ.out.grown hg6 (by intro h; injection h with h; omega)); replace HO5 := hide (RowB.off HO5.out hg6 (by omega)); replace HW := hide (HW.out.grown hg6 HW.out.size (by intro k hk; simp at hk; omega)); clear hb6 hg6)
          | (refine wpList_cap_all _ rfl rfl rfl HB.out ?_)
          | (refine wpList_cap_putAll _ _ rfl rfl rfl HZ.out C1 l5 rfl HB.out.keyL HB.out.fpL HB.out.one ?_; intro w7 hb7 hg7 hs7; replace HZ := hide hb7; replace HO5 := hide (RowB.off HO5.out hg7 (by omega)); replace HW := hide (HW.out.grown hg7 HW.out.size (by intro k hk; simp at hk; omega)); clear hb7 hg7))
      refine bodyPost_ret (results_cap_err rfl _ _ (g + 1) _ _ rfl HZ.out _ rfl) rfl ?_
      exact ⟨l5, rfl, by rw [HCL.out]; exact HO5.out.reads, HW.out⟩
  · have HRD := hide (fun w => by have := read_ref c lit w hc; rw [Bool.not_eq_true _ |>.mp hr, HCV.out] at this; exact this)
    have HE := hide (show roE c = 11 by unfold roE; rw [if_neg hr])
    have HC1 := hide (show roF c = NN by rw [← HNN.out]; unfold roF; rw [if_neg hr])
    rw [HC1.out, HE.out]
    clear hr hc hwf hl
    rw [HCV.out]
    go_enter Tryd.func40, Tryd.ntmps40
    obtain ⟨g, hg⟩ : ∃ n, w.heap.size = n := ⟨_, rfl⟩
    go_wp2_with (first
        | (refine wpList_cap_new _ rfl HCV.out.symm rfl H1.out H2.out H3.out ?_; intro w1 hb1 hw1 hs1; rw [hg] at hb1 ⊢; have HB := hide hb1; have HW := hide hw1; clear hb1 hw1)
        | (refine wpList_cap_zero rfl rfl ?_; rw [HNN.out]; intro w2 hb2 hw2 hs2; have hg2 : w1.heap.size = g + 1 := (by omega); rw [hg2] at hb2; try rw [hg2]; have HZ := hide hb2; replace HB := hide (HB.out.below hw2 HB.out.lt); replace HW := hide (HW.out.trans (hw2.mono HW.out.size)); clear hb2 hw2)
        | (refine wpList_cap_all _ rfl rfl rfl HB.out ?_; rw [HCV.out]))
    refine (HRD.out _).mono ?_
    rintro e w3 ⟨rfl, hb3⟩
    replace HB := hide (HB.out.below hb3 HB.out.lt)
    replace HZ := hide (HZ.out.below hb3 HZ.out.lt)
    replace HW := hide (HW.out.trans (hb3.mono HW.out.size))
    clear hb3
    go_wp2_with (first
        | (refine wpList_none_cap rfl rfl ?_; rw [HNN.out])
        | (refine wpList_cap_putAll _ _ rfl rfl rfl HZ.out NN (.slice none 0 0) rfl HN1.out HN2.out rfl ?_; intro w6 hb6 hg6 hs6; replace HZ := hide hb6; replace HW := hide (HW.out.grown hg6 HW.out.size (by intro k hk; simp at hk; omega)); clear hb6 hg6))
    refine bodyPost_ret (results_cap_err rfl _ _ (g + 1) _ _ rfl HZ.out _ rfl) rfl ?_
    exact ⟨_, rfl, by rw [HNL.out]; exact Bs.nil_ _ _, HW.out⟩
end Go.Proofs.YtgjepahhbecljaaDoor

namespace Go.Proofs.YtgjepahhbecljaaDoor
open Go Go.RowKit
set_option linter.unusedVariables false
set_option linter.unusedSimpArgs false
set_option maxRecDepth 100000
set_option maxHeartbeats 8000000
/-- An empty row reads as such in every world. -/
theorem bs_nil {w w' : World} {B B' : Nat} {v : Value} (h : Bs w B v []) : Bs w' B' v [] := by
  obtain ⟨A, c, rfl, h1, h2, _⟩ := h.open_
  exact ⟨A, c, rfl, h1, h2, rfl, fun hp => absurd hp (by simp)⟩
theorem VerifyOnly_ref (c : CapD) (lit : Value) (w : World) (hwf : c.Wf) (hl : Bs w w.heap.size lit c.lit) (hn : c.lit.length ≤ 1000000) :
    Calls Tryd.prog 42 #[capV c lit] w fun e w' => ∃ l', e = .returned (.tuple #[capV (voF c) l', .int .i64 (voE c)]) ∧ Bs w' w'.heap.size l' (voF c).lit ∧ Below w.heap.size w w' := by
  have hc := capV_of hwf.keyL hwf.fpL hl
  have H1 := hide hwf.keyL
  have H2 := hide hwf.fpL
  have H3 := hide hl.one
  have HL := hide hl
  have HLB := hide hwf.litB
  have HWF := hide hwf
  obtain ⟨NN, HNN⟩ : ∃ x, Hid (CapD.none_ = x) := ⟨_, hide rfl⟩
  have HN1 := hide (show NN.key.length = 16 by rw [← HNN.out]; rfl)
  have HN2 := hide (show NN.fp.length = 32 by rw [← HNN.out]; rfl)
  have HNL := hide (show NN.lit = [] by rw [← HNN.out]; rfl)
  obtain ⟨CV, HCV⟩ : ∃ x, Hid (capV c lit = x) := ⟨_, hide rfl⟩
  by_cases hv : decide c.Valid = true
  · have HVA := hide (fun w => by have := Valid_ref c lit w hc; rw [hv, HCV.out] at this; exact this)
    by_cases h3 : c.kind = 3
    · have e3 : (c.kind == 3) = true := by simp [h3]
      have HF := hide (show voF c = NN ∧ voE c = 11 by rw [← HNN.out]; unfold voF voE; simp [h3])
      rw [HF.out.1, HF.out.2]
      clear hv hc hwf hl h3
      rw [HCV.out]
      go_enter Tryd.func42, Tryd.ntmps42
      obtain ⟨g, hg⟩ : ∃ n, w.heap.size = n := ⟨_, rfl⟩
      go_wp2_with (first
          | go_skip
          | (refine wpList_cap_new _ rfl HCV.out.symm rfl H1.out H2.out H3.out ?_; intro w1 hb1 hw1 hs1; rw [hg] at hb1 ⊢; have HB := hide hb1; have HW := hide hw1; clear hb1 hw1)
          | (refine wpList_cap_zero rfl rfl ?_; rw [HNN.out]; intro w2 hb2 hw2 hs2; have hg2 : w1.heap.size = g + 1 := (by omega); rw [hg2] at hb2; try rw [hg2]; have HZ := hide hb2; replace HB := hide (HB.out.below hw2 HB.out.lt); replace HW := hide (HW.out.trans (hw2.mono HW.out.size)); clear hb2 hw2)
          | (refine wpList_cap_all _ rfl rfl rfl HB.out ?_; rw [HCV.out]))
      refine (HVA.out _).mono ?_
      rintro e w3 ⟨rfl, hb3⟩
      replace HB := hide (HB.out.below hb3 HB.out.lt)
      replace HZ := hide (HZ.out.below hb3 HZ.out.lt)
      replace HW := hide (HW.out.trans (hb3.mono HW.out.size))
      clear hb3
      go_wp2_with (first
          | go_skip
          | (refine wpList_cap_int _ rfl _ rfl rfl HB.out _ rfl ?_)
          | (refine wpList_none_cap rfl rfl ?_; rw [HNN.out])
          | (refine wpList_cap_putAll _ _ rfl rfl rfl HZ.out NN (.slice none 0 0) rfl HN1.out HN2.out rfl ?_; intro w6 hb6 hg6 hs6; replace HZ := hide hb6; replace HW := hide (HW.out.grown hg6 HW.out.size (by intro k hk; simp at hk; omega)); clear hb6 hg6))
      refine bodyPost_ret (results_cap_err rfl _ _ (g + 1) _ _ rfl HZ.out _ rfl) rfl ?_
      exact ⟨_, rfl, by rw [HNL.out]; exact Bs.nil_ _ _, HW.out⟩
    · have e3 : (c.kind == 3) = false := by simp [h3]
      have hok : (decide c.Valid && (c.kind != 3)) = true := by rw [hv]; simp [h3]
      have HE := hide (show voE c = 0 by unfold voE; rw [if_pos hok])
      have hVd : c.Valid := of_decide_eq_true hv
      have hcl : c.lit = [] := valid_lit hVd h3
      have HCLN := hide hcl
      by_cases hr : readF c = true
      · have HRD := hide (fun w => by have := read_ref c lit w hc; rw [hr, HCV.out] at this; exact this)
        have HROE := hide (show roE c = 0 by unfold roE; rw [if_pos hr])
        obtain ⟨C2, HC2⟩ : ∃ x, Hid (roF c = x) := ⟨_, hide rfl⟩
        have hkd : 1 ≤ C2.kind ∧ C2.kind ≤ 10 := by rw [← HC2.out]; exact roF_kind hr
        have HRO := hide (fun w' (hw' : Below w.heap.size w w') => by
          have := ReadOnly_ref c lit w' hwf ((hl.below hw' (Nat.le_refl _)).more hw'.size) hn
          rw [HCV.out, HC2.out, HROE.out] at this; exact this)
        have hwf2 : C2.Wf := by rw [← HC2.out]; exact roF_wf hwf
        obtain ⟨KR, HKR0⟩ : ∃ x, Hid (keyF tIndex C2.key = x) := ⟨_, hide rfl⟩
        have HKL := hide (show KR.length = 16 by rw [← HKR0.out]; exact keyF_len _ _)
        have HSHT := hide (show shortF (strB tIndex) [C2.key] = KR from HKR0.out)
        have HKB := hide hwf2.keyB
        have HKLn := hide hwf2.keyL
        have HCK := hide hwf2.keyL
        have HCF := hide hwf2.fpL
        obtain ⟨C1K, HC1⟩ : ∃ x, Hid (voF c = x) := ⟨_, hide rfl⟩
        have HC1E := hide (show ({ C2 with kind := C2.kind + 1, key := KR } : CapD) = C1K by rw [← HC1.out]; unfold voF; rw [if_pos hok, if_pos hr, HC2.out, HKR0.out])
        have HC1N := hide (show C1K.lit = C2.lit by rw [← HC1E.out])
        have HC2N := hide (show C2.lit = [] by rw [← HC1N.out, ← HC1.out]; exact voF_lit)
        rw [HC1.out, HE.out]
        clear hv hc hwf hl h3 hok hVd hcl hr hwf2
        rw [HCV.out]
        go_enter Tryd.func42, Tryd.ntmps42
        obtain ⟨g, hg⟩ : ∃ n, w.heap.size = n := ⟨_, rfl⟩
        go_wp2_with (first
            | go_skip
            | (refine wpList_cap_new _ rfl HCV.out.symm rfl H1.out H2.out H3.out ?_; intro w1 hb1 hw1 hs1; rw [hg] at hb1 ⊢; have HB := hide hb1; have HW := hide hw1; clear hb1 hw1)
            | (refine wpList_cap_zero rfl rfl ?_; rw [HNN.out]; intro w2 hb2 hw2 hs2; have hg2 : w1.heap.size = g + 1 := (by omega); rw [hg2] at hb2; try rw [hg2]; have HZ := hide hb2; replace HB := hide (HB.out.below hw2 HB.out.lt); replace HW := hide (HW.out.trans (hw2.mono HW.out.size)); clear hb2 hw2)
            | (refine wpList_cap_all _ rfl rfl rfl HB.out ?_; rw [HCV.out]))
        refine (HVA.out _).mono ?_
        rintro e w3 ⟨rfl, hb3⟩
        replace HB := hide (HB.out.below hb3 HB.out.lt)
        replace HZ := hide (HZ.out.below hb3 HZ.out.lt)
        replace HW := hide (HW.out.trans (hb3.mono HW.out.size))
        clear hb3
        go_wp2_with (first
            | go_skip
            | (refine wpList_cap_int _ rfl _ rfl rfl HB.out _ rfl ?_)
            | (refine wpList_cap_all _ rfl rfl rfl HB.out ?_; rw [HCV.out]))
        refine (HRD.out _).mono ?_
        rintro e w3 ⟨rfl, hb3⟩
        replace HB := hide (HB.out.below hb3 HB.out.lt)
        replace HZ := hide (HZ.out.below hb3 HZ.out.lt)
        replace HW := hide (HW.out.trans (hb3.mono HW.out.size))
        clear hb3
        go_wp2_with (refine wpList_cap_all _ rfl rfl rfl HB.out ?_; rw [HCV.out])
        refine (HRO.out _ HW.out).mono ?_
        rintro e w5 ⟨l5, rfl, hl5, hb5⟩
        have L5 := hide hl5.one
        have LL5 := hide hl5
        replace HZ := hide (HZ.out.below hb5 HZ.out.lt)
        replace HW := hide (HW.out.trans (hb5.mono HW.out.size))
        clear hb5 hl5 HB
        obtain ⟨g4, hg4⟩ : ∃ n, w5.heap.size = n := ⟨_, rfl⟩
        have hgz : g + 1 < g4 := by have := HZ.out.lt; omega
        rw [hg4] at LL5
        go_wp2_with (first
            | (refine wpList_cap_zero rfl rfl ?_; rw [HNN.out]; intro w6 hb6 hw6 hs6; rw [hg4] at hb6 hw6 hs6; try rw [hg4]; have HD := hide hb6; replace LL5 := hide (LL5.out.below hw6 (Nat.le_refl _)); replace HZ := hide (HZ.out.below hw6 (by omega)); replace HW := hide (HW.out.trans (hw6.mono (by have := HW.out.size; omega))); have hz6 : g4 + 1 ≤ w6.heap.size := (by omega); clear hb6 hw6 hs6)
            | (refine wpList_cap_putAll _ _ rfl rfl rfl HD.out C2 l5 rfl HCK.out HCF.out L5.out ?_; intro w6 hb6 hg6 hs6; have hbt := (Below.refl g4 _).grown hg6 (by have := HD.out.lt; omega) (by intro k hk; simp at hk; omega); replace HD := hide hb6; replace LL5 := hide (LL5.out.below hbt (Nat.le_refl _)); have hz7 : g4 + 1 ≤ w6.heap.size := (by omega); replace HZ := hide (HZ.out.grown hg6 (by intro h; injection h with h; omega)); replace HW := hide (HW.out.grown hg6 HW.out.size (by intro k hk; simp at hk; omega)); clear hb6 hg6; clear hbt hs6)
            | (refine wpList_rows1 rfl _ rfl (.slice (some ⟨g4, 1, none⟩) 16 16) rfl rfl ?_; intro wd hbd hwd; replace HD := hide (HD.out.below hwd HD.out.lt); have HRW := hide (rows_one hbd (HD.out.keyRow HD.out.lt)); replace HZ := hide (HZ.out.below hwd HZ.out.lt); have hz8 := hwd.size; replace LL5 := hide (LL5.out.below hwd (by omega)); replace HW := hide (HW.out.trans (hwd.mono HW.out.size)); clear hbd hwd))
        have hcall := Short_ref tIndex _ [C2.key] _ HRW.out (by intro x hx; simp at hx; subst hx; exact HKB.out) (by intro x hx; simp at hx; subst hx; have := HKLn.out; omega) (by simp) (by decide)
        rw [HSHT.out] at hcall
        refine hcall.mono ?_
        clear hcall
        rintro e w4 ⟨rfl, hb⟩
        replace HD := hide (HD.out.below hb HD.out.lt)
        replace HZ := hide (HZ.out.below hb HZ.out.lt)
        replace LL5 := hide (LL5.out.below hb (by omega))
        replace HW := hide (HW.out.trans (hb.mono HW.out.size))
        clear hb HRW
        go_wp2_with (first
            | (refine wpList_cap_putKey _ _ rfl rfl rfl HD.out KR rfl HKL.out ?_; intro w6 hb6 hg6 hs6; have hbt := (Below.refl g4 _).grown hg6 (by have := HD.out.lt; omega) (by intro k hk; simp at hk; omega); replace LL5 := hide (LL5.out.below hbt (Nat.le_refl _)); clear hbt; replace HD := hide hb6; replace HZ := hide (HZ.out.grown hg6 (by intro h; injection h with h; omega)); replace HW := hide (HW.out.grown hg6 HW.out.size (by intro k hk; simp at hk; omega)); clear hb6 hg6)
            | (refine wpList_cap_put _ _ rfl 0 rfl rfl HD.out (C2.kind + 1) rfl { C2 with kind := C2.kind + 1, key := KR } rfl ?_; intro w6 hb6 hg6 hs6; have hbt := (Below.refl g4 _).grown hg6 (by have := HD.out.lt; omega) (by intro k hk; simp at hk; omega); replace LL5 := hide (LL5.out.below hbt (Nat.le_refl _)); clear hbt; replace HD := hide (show CapB w6 g4 C1K l5 from (by rw [← HC1E.out]; exact hb6)); replace HZ := hide (HZ.out.grown hg6 (by intro h; injection h with h; omega)); replace HW := hide (HW.out.grown hg6 HW.out.size (by intro k hk; simp at hk; omega)); clear hb6 hg6)
            | (refine wpList_cap_int _ rfl 0 rfl rfl HD.out C2.kind rfl ?_)
            | (refine wpList_cap_all _ rfl rfl rfl HD.out ?_)
            | (refine wpList_cap_putAll _ _ rfl rfl rfl HZ.out C1K l5 rfl HD.out.keyL HD.out.fpL HD.out.one ?_; intro w7 hb7 hg7 hs7; have hbt := (Below.refl (g + 1) _).grown hg7 (by have := HZ.out.lt; omega) (by intro k hk; simp at hk; omega); replace HZ := hide hb7; replace HW := hide (HW.out.grown hg7 HW.out.size (by intro k hk; simp at hk; omega)); clear hb7 hbt))
        refine bodyPost_ret (results_cap_err rfl _ _ (g + 1) _ _ rfl HZ.out _ rfl) rfl ?_
        refine ⟨l5, rfl, ?_, HW.out⟩
        rw [HC1N.out, HC2N.out]
        have hx := LL5.out
        rw [HC2N.out] at hx
        exact bs_nil hx
      · have HRD := hide (fun w => by have := read_ref c lit w hc; rw [Bool.not_eq_true _ |>.mp hr, HCV.out] at this; exact this)
        have HC1 := hide (show voF c = c by unfold voF; rw [if_pos hok, if_neg hr])
        rw [HC1.out, HE.out]
        clear hv hc hwf hl h3 hok hVd hcl hr
        rw [HCV.out]
        go_enter Tryd.func42, Tryd.ntmps42
        obtain ⟨g, hg⟩ : ∃ n, w.heap.size = n := ⟨_, rfl⟩
        go_wp2_with (first
            | go_skip
            | (refine wpList_cap_new _ rfl HCV.out.symm rfl H1.out H2.out H3.out ?_; intro w1 hb1 hw1 hs1; rw [hg] at hb1 ⊢; have HB := hide hb1; have HW := hide hw1; clear hb1 hw1)
            | (refine wpList_cap_zero rfl rfl ?_; rw [HNN.out]; intro w2 hb2 hw2 hs2; have hg2 : w1.heap.size = g + 1 := (by omega); rw [hg2] at hb2; try rw [hg2]; have HZ := hide hb2; replace HB := hide (HB.out.below hw2 HB.out.lt); replace HW := hide (HW.out.trans (hw2.mono HW.out.size)); clear hb2 hw2)
            | (refine wpList_cap_all _ rfl rfl rfl HB.out ?_; rw [HCV.out]))
        refine (HVA.out _).mono ?_
        rintro e w3 ⟨rfl, hb3⟩
        replace HB := hide (HB.out.below hb3 HB.out.lt)
        replace HZ := hide (HZ.out.below hb3 HZ.out.lt)
        replace HW := hide (HW.out.trans (hb3.mono HW.out.size))
        clear hb3
        go_wp2_with (first
            | go_skip
            | (refine wpList_cap_int _ rfl _ rfl rfl HB.out _ rfl ?_)
            | (refine wpList_cap_all _ rfl rfl rfl HB.out ?_; rw [HCV.out]))
        refine (HRD.out _).mono ?_
        rintro e w3 ⟨rfl, hb3⟩
        replace HB := hide (HB.out.below hb3 HB.out.lt)
        replace HZ := hide (HZ.out.below hb3 HZ.out.lt)
        replace HW := hide (HW.out.trans (hb3.mono HW.out.size))
        clear hb3
        go_wp2_with (first
            | (refine wpList_cap_all _ rfl rfl rfl HB.out ?_)
            | (refine wpList_cap_putAll _ _ rfl rfl rfl HZ.out c lit rfl HB.out.keyL HB.out.fpL HB.out.one ?_; intro w7 hb7 hg7 hs7; replace HZ := hide hb7; replace HW := hide (HW.out.grown hg7 HW.out.size (by intro k hk; simp at hk; omega)); clear hb7 hg7))
        refine bodyPost_ret (results_cap_err rfl _ _ (g + 1) _ _ rfl HZ.out _ rfl) rfl ?_
        exact ⟨lit, rfl, (HL.out.below HW.out (Nat.le_refl _)).more HW.out.size, HW.out⟩
  · have HVA := hide (fun w => by have := Valid_ref c lit w hc; rw [Bool.not_eq_true _ |>.mp hv, HCV.out] at this; exact this)
    have HF := hide (show voF c = NN ∧ voE c = 11 by rw [← HNN.out]; unfold voF voE; simp [Bool.not_eq_true _ |>.mp hv])
    rw [HF.out.1, HF.out.2]
    clear hv hc hwf hl
    rw [HCV.out]
    go_enter Tryd.func42, Tryd.ntmps42
    obtain ⟨g, hg⟩ : ∃ n, w.heap.size = n := ⟨_, rfl⟩
    go_wp2_with (first
        | go_skip
        | (refine wpList_cap_new _ rfl HCV.out.symm rfl H1.out H2.out H3.out ?_; intro w1 hb1 hw1 hs1; rw [hg] at hb1 ⊢; have HB := hide hb1; have HW := hide hw1; clear hb1 hw1)
        | (refine wpList_cap_zero rfl rfl ?_; rw [HNN.out]; intro w2 hb2 hw2 hs2; have hg2 : w1.heap.size = g + 1 := (by omega); rw [hg2] at hb2; try rw [hg2]; have HZ := hide hb2; replace HB := hide (HB.out.below hw2 HB.out.lt); replace HW := hide (HW.out.trans (hw2.mono HW.out.size)); clear hb2 hw2)
        | (refine wpList_cap_all _ rfl rfl rfl HB.out ?_; rw [HCV.out]))
    refine (HVA.out _).mono ?_
    rintro e w3 ⟨rfl, hb3⟩
    replace HB := hide (HB.out.below hb3 HB.out.lt)
    replace HZ := hide (HZ.out.below hb3 HZ.out.lt)
    replace HW := hide (HW.out.trans (hb3.mono HW.out.size))
    clear hb3
    go_wp2_with (first
        | go_skip
        | (refine wpList_cap_int _ rfl _ rfl rfl HB.out _ rfl ?_)
        | (refine wpList_none_cap rfl rfl ?_; rw [HNN.out])
        | (refine wpList_cap_putAll _ _ rfl rfl rfl HZ.out NN (.slice none 0 0) rfl HN1.out HN2.out rfl ?_; intro w6 hb6 hg6 hs6; replace HZ := hide hb6; replace HW := hide (HW.out.grown hg6 HW.out.size (by intro k hk; simp at hk; omega)); clear hb6 hg6))
    refine bodyPost_ret (results_cap_err rfl _ _ (g + 1) _ _ rfl HZ.out _ rfl) rfl ?_
    exact ⟨_, rfl, by rw [HNL.out]; exact Bs.nil_ _ _, HW.out⟩
end Go.Proofs.YtgjepahhbecljaaDoor

namespace Go.Proofs.YtgjepahhbecljaaDoor
open Go Go.RowKit
set_option linter.unusedVariables false
set_option linter.unusedSimpArgs false
set_option maxRecDepth 100000
set_option maxHeartbeats 8000000
theorem Index_ref (c : CapD) (lit : Value) (w : World) (hwf : c.Wf) (hl : Bs w w.heap.size lit c.lit) (hn : c.lit.length ≤ 1000000) :
    Calls Tryd.prog 44 #[capV c lit] w fun e w' => e = .returned (.tuple #[.agg (u8s (ixF c)).toArray, .int .i64 (voE c)]) ∧ Below w.heap.size w w' := by
  have hc := capV_of hwf.keyL hwf.fpL hl
  have H1 := hide hwf.keyL
  have H2 := hide hwf.fpL
  have H3 := hide hl.one
  have HL := hide hl
  have HLB := hide hwf.litB
  have HWF := hide hwf
  obtain ⟨NN, HNN⟩ : ∃ x, Hid (CapD.none_ = x) := ⟨_, hide rfl⟩
  have HN1 := hide (show NN.key.length = 16 by rw [← HNN.out]; rfl)
  have HN2 := hide (show NN.fp.length = 32 by rw [← HNN.out]; rfl)
  have HNL := hide (show NN.lit = [] by rw [← HNN.out]; rfl)
  obtain ⟨CV, HCV⟩ : ∃ x, Hid (capV c lit = x) := ⟨_, hide rfl⟩
  obtain ⟨C2, HC2⟩ : ∃ x, Hid (voF c = x) := ⟨_, hide rfl⟩
  obtain ⟨E2, HE2⟩ : ∃ x, Hid (voE c = x) := ⟨_, hide rfl⟩
  have hwf2 : C2.Wf := by rw [← HC2.out]; exact voF_wf hwf
  have HCK := hide hwf2.keyL
  have HCF := hide hwf2.fpL
  have HVO := hide (fun w' (hw' : Below w.heap.size w w') => by
    have := VerifyOnly_ref c lit w' hwf ((hl.below hw' (Nat.le_refl _)).more hw'.size) hn
    rw [HCV.out, HC2.out, HE2.out] at this; exact this)
  have HIX := hide (show ixF c = C2.key by unfold ixF; rw [HC2.out])
  rw [HIX.out, HE2.out]
  clear hc hwf hl hwf2
  rw [HCV.out]
  go_enter Tryd.func44, Tryd.ntmps44
  obtain ⟨g, hg⟩ : ∃ n, w.heap.size = n := ⟨_, rfl⟩
  go_wp2_with (first
      | (refine wpList_cap_new _ rfl HCV.out.symm rfl H1.out H2.out H3.out ?_; intro w1 hb1 hw1 hs1; rw [hg] at hb1 ⊢; have HB := hide hb1; have HW := hide hw1; clear hb1 hw1)
      | (refine wpList_alloc_blk rfl 23 rfl _ zero_key ?_; intro w2 hb2 hw2 hs2; have hg2 : w1.heap.size = g + 1 := (by omega); rw [hg2] at hb2; try rw [hg2]; have HZ := hide hb2; replace HB := hide (HB.out.below hw2 HB.out.lt); replace HW := hide (HW.out.trans (hw2.mono HW.out.size)); clear hb2 hw2)
      | (refine wpList_cap_all _ rfl rfl rfl HB.out ?_; rw [HCV.out]))
  refine (HVO.out _ HW.out).mono ?_
  rintro e w5 ⟨l5, rfl, hl5, hb5⟩
  have L5 := hide hl5.one
  replace HZ := hide (HZ.out.below hb5 HZ.out.lt)
  replace HW := hide (HW.out.trans (hb5.mono HW.out.size))
  clear hb5 hl5 HB
  obtain ⟨g4, hg4⟩ : ∃ n, w5.heap.size = n := ⟨_, rfl⟩
  have hgz : g + 1 < g4 := by have := HZ.out.lt; omega
  go_wp2_with (first
      | (refine wpList_cap_zero rfl rfl ?_; rw [HNN.out]; intro w6 hb6 hw6 hs6; rw [hg4] at hb6; try rw [hg4]; have HB := hide hb6; replace HZ := hide (HZ.out.below hw6 HZ.out.lt); replace HW := hide (HW.out.trans (hw6.mono HW.out.size)); clear hb6 hw6)
      | (refine wpList_cap_putAll _ _ rfl rfl rfl HB.out C2 l5 rfl HCK.out HCF.out L5.out ?_; intro w6 hb6 hg6 hs6; replace HB := hide hb6; replace HZ := hide (HZ.out.grown hg6 (by intro h; injection h with h; omega)); replace HW := hide (HW.out.grown hg6 HW.out.size (by intro k hk; simp at hk; omega)); clear hb6 hg6)
      | (refine wpList_cap_key _ rfl rfl rfl HB.out ?_)
      | (refine wpList_store_blk rfl 23 _ _ rfl (g + 1) 0 (u8s C2.key) rfl rfl _ _ HZ.out (by rw [u8s_len, u8s_len, HCK.out]; simp) (by rw [u8s_len, HCK.out]; exact size_key) (u8s_one _) ?_; intro w7 hb7 hg7 hs7; rw [lset_all _ _ (by rw [u8s_len, u8s_len, HCK.out]; rfl)] at hb7; replace HZ := hide hb7; replace HW := hide (HW.out.grown hg7 HW.out.size (by intro k hk; simp at hk; omega)); clear hb7 hg7))
  refine bodyPost_ret (results_key_err rfl _ _ (g + 1) C2.key rfl HZ.out HCK.out _ rfl) rfl ?_
  exact ⟨rfl, HW.out⟩
end Go.Proofs.YtgjepahhbecljaaDoor

namespace Go.Proofs.YtgjepahhbecljaaDoor
open Go Go.RowKit
set_option linter.unusedVariables false
set_option linter.unusedSimpArgs false
set_option maxRecDepth 100000
set_option maxHeartbeats 8000000
theorem Slot_ref (seed fp : List Int) (w : World) (h1 : seed.length = 16) (hb : Bytes seed) (h2 : fp.length = 32) :
    Calls Tryd.prog 36 #[.agg (u8s seed).toArray, .agg (u8s fp).toArray] w fun e w' => e = .returned (capV (slotF seed fp) (.slice none 0 0)) ∧ Below w.heap.size w w' := by
  have H1 := hide h1
  have H2 := hide h2
  obtain ⟨KR, HKR0⟩ : ∃ x, Hid (keyF tWrite seed = x) := ⟨_, hide rfl⟩
  have HKL := hide (show KR.length = 16 by rw [← HKR0.out]; exact keyF_len _ _)
  obtain ⟨KV, HKV⟩ : ∃ x, Hid (Value.agg (u8s seed).toArray = x) := ⟨_, hide rfl⟩
  obtain ⟨FV, HFV⟩ : ∃ x, Hid (Value.agg (u8s fp).toArray = x) := ⟨_, hide rfl⟩
  have HSW := hide (show shortF (strB tWrite) [seed] = KR from HKR0.out)
  have HSB := hide hb
  have HSF := hide (show slotF seed fp = ⟨4, KR, fp, 0, 0, 0, []⟩ by unfold slotF; rw [HKR0.out])
  rw [HSF.out, HKV.out, HFV.out]
  clear h1 hb h2
  go_enter Tryd.func36, Tryd.ntmps36
  obtain ⟨g, hg⟩ : ∃ n, w.heap.size = n := ⟨_, rfl⟩
  go_upto_region 1 with (first
    | (refine wpList_box_key _ rfl seed HKV.out.symm rfl ?_; intro w1 hb1 hw1 hs1; rw [hg] at hb1 ⊢; have HA := hide hb1; have HW := hide hw1; clear hb1 hw1)
    | (refine wpList_box_hash _ rfl fp HFV.out.symm rfl ?_; intro w2 hb2 hw2 hs2; have hg2 : w1.heap.size = g + 1 := (by omega); rw [hg2] at hb2; try rw [hg2]; have HF := hide hb2; replace HA := hide (HA.out.below hw2 HA.out.lt); replace HW := hide (HW.out.trans (hw2.mono HW.out.size)); clear hb2 hw2)
    | (refine wpList_cap_zero rfl rfl ?_; intro w3 hb3 hw3 hs3; have hg3 : w2.heap.size = g + 1 + 1 := (by omega); rw [hg3] at hb3; try rw [hg3]; have HZ := hide hb3; replace HA := hide (HA.out.below hw3 HA.out.lt); replace HF := hide (HF.out.below hw3 HF.out.lt); replace HW := hide (HW.out.trans (hw3.mono HW.out.size)); clear hb3 hw3))
  refine wp_region_held_drew (S := fun w' => Below w.heap.size w w' ∧ Blk w' g 23 (u8s seed) ∧ Blk w' (g + 1) 25 (u8s fp)) (by kernel_rfl) ⟨HW.out.drew, HA.out.drew, HF.out.drew⟩ (fun hHeld => ?_)
  replace HZ := hide (HZ.out.below ((Below.refl _ _).drew) HZ.out.lt)
  refine take_d 5 (i := 0) (v := .slice (some ⟨g, 0, none⟩) 16 16) rfl (by kernel_rfl) (by kernel_rfl) (by kernel_rfl) (by kernel_rfl) (fun _ _ _ h => h) (Or.inl ⟨by kernel_rfl, fun w' hS => exec_slice_key _ rfl g 0 rfl⟩) hHeld ?_
  try simp only [Act.put, List.setIfInBounds_toArray, List.set_cons_zero, List.set_cons_succ]
  refine take_d 8 (i := 3) (v := FV) rfl (by kernel_rfl) (by kernel_rfl) (by kernel_rfl) (by kernel_rfl) (fun _ _ _ h => h) (Or.inl ⟨by kernel_rfl, fun w' hS => exec_load_arr _ _ rfl (g + 1) 0 rfl _ (u8s fp) (blk_range hS.2.2 0 _ (fun j u hu => by rw [Nat.zero_add]; exact hu)) Tryd.underlying25 rfl (by rw [u8s_len, H2.out]; exact size_hash) |>.trans (by rw [HFV.out])⟩) hHeld ?_
  try simp only [Act.put, List.setIfInBounds_toArray, List.set_cons_zero, List.set_cons_succ]
  refine wpAnyH_ready (rs := [1]) (by kernel_rfl) (by simp) (AllReadyH.cons rfl (fun K hK => ?_) AllReadyH.nil)
  rw [if_pos (by kernel_rfl)]
  refine wp_rows1D 6 rfl _ rfl (.slice (some ⟨g, 0, none⟩) 16 16) rfl rfl ?_
  generalize hgd : Array.size (World.heap _) = gd
  intro wd hbd hwd
  have hsz : _ := hHeld.1.size
  have hX := hHeld.1.trans (hwd.mono (by rw [← hgd]; exact hsz))
  have hA := hHeld.2.1.below hwd (by rw [← hgd]; exact hHeld.2.1.lt)
  have hF := hHeld.2.2.below hwd (by rw [← hgd]; exact hHeld.2.2.lt)
  have HRW := hide (rows_one hbd (hA.reads H1.out (by omega)))
  replace HZ := hide (HZ.out.below hwd (by rw [← hgd]; exact HZ.out.lt))
  have HX := hide (show Below w.heap.size w wd ∧ Blk wd g 23 (u8s seed) ∧ Blk wd (g + 1) 25 (u8s fp) from ⟨hX, hA, hF⟩)
  clear hbd hwd hX hA hF
  refine hK.out _ _ HX.out (fun hHeld => ?_)
  clear HX hK K
  try simp only [Act.put, List.setIfInBounds_toArray, List.set_cons_zero, List.set_cons_succ]
  refine wpAnyH_ready (rs := [2]) (by kernel_rfl) (by simp) (AllReadyH.cons rfl (fun K hK => ?_) AllReadyH.nil)
  rw [if_pos (by kernel_rfl)]
  try go_simp
  have hcall := Short_ref tWrite _ [seed] _ HRW.out (by intro x hx; simp at hx; subst hx; exact HSB.out) (by intro x hx; simp at hx; subst hx; have := H1.out; omega) (by simp) (by decide)
  rw [HSW.out] at hcall
  refine hcall.mono ?_
  clear hcall
  rintro e wc ⟨rfl, hb⟩
  have hsz := hHeld.1.size
  have HX := hide (show Below w.heap.size w wc ∧ Blk wc g 23 (u8s seed) ∧ Blk wc (g + 1) 25 (u8s fp) from ⟨hHeld.1.trans (hb.mono hsz), hHeld.2.1.below hb hHeld.2.1.lt, hHeld.2.2.below hb hHeld.2.2.lt⟩)
  replace HZ := hide (HZ.out.below hb HZ.out.lt)
  clear hb
  refine hK.out _ _ HX.out (fun hHeld => ?_)
  clear HX hK K
  try simp only [Act.put, List.setIfInBounds_toArray, List.set_cons_zero, List.set_cons_succ]
  refine take_d 9 (i := 4) (v := (capV ⟨4, KR, fp, 0, 0, 0, []⟩ (.slice none 0 0))) rfl (by kernel_rfl) (by kernel_rfl) (by kernel_rfl) (by kernel_rfl) (fun _ _ _ h => h) (Or.inl ⟨by kernel_rfl, fun w' hS => exec_build_slot _ _ rfl KR fp rfl (by exact HFV.out.symm) HKL.out H2.out⟩) hHeld ?_
  try simp only [Act.put, List.setIfInBounds_toArray, List.set_cons_zero, List.set_cons_succ]
  refine wpAnyH_ready (rs := [5]) (by kernel_rfl) (by simp) (AllReadyH.cons rfl (fun K hK => ?_) AllReadyH.nil)
  rw [if_pos (by kernel_rfl)]
  refine wp_cap_putAllD rfl _ _ rfl rfl HZ.out ⟨4, KR, fp, 0, 0, 0, []⟩ (.slice none 0 0) rfl HKL.out H2.out rfl ?_
  intro ws hb5 hg5 hs5
  replace HZ := hide hb5
  have HX := hide (show Below w.heap.size w ws ∧ Blk ws g 23 (u8s seed) ∧ Blk ws (g + 1) 25 (u8s fp) from ⟨hHeld.1.grown hg5 hHeld.1.size (by intro k hk; simp at hk; omega), hHeld.2.1.grown hg5 (by intro h; injection h with h; omega), hHeld.2.2.grown hg5 (by intro h; injection h with h; omega)⟩)
  clear hb5 hg5 hs5
  refine hK.out _ _ HX.out (fun hHeld => ?_)
  clear HX hK K
  try simp only [Act.put, List.setIfInBounds_toArray, List.set_cons_zero, List.set_cons_succ]
  refine wpAnyH_done (by kernel_rfl) ?_ _
  replace HW := hide hHeld.1
  clear hHeld
  go_wp2_with fail
  refine bodyPost_ret (v := capV ⟨4, KR, fp, 0, 0, 0, []⟩ (.slice none 0 0)) (results_cell_row rfl _ _ (g + 1 + 1) 28 (capCells ⟨4, KR, fp, 0, 0, 0, []⟩ (.slice none 0 0)).toArray (0, 0) _ rfl HZ.out.blk Tryd.underlying28 rfl (by rw [List.size_toArray, cc_len _ HZ.out.keyL HZ.out.fpL]; exact size_cap)) rfl ?_
  exact ⟨rfl, HW.out⟩
end Go.Proofs.YtgjepahhbecljaaDoor

namespace Go.Proofs.YtgjepahhbecljaaDoor
open Go Go.RowKit
set_option linter.unusedVariables false
set_option linter.unusedSimpArgs false
set_option maxRecDepth 100000
set_option maxHeartbeats 8000000
theorem Dir_ref (c : CapD) (lit : Value) (w : World) (hwf : c.Wf) (hl : Bs w w.heap.size lit c.lit) (hn : c.lit.length ≤ 1000000) :
    Calls Tryd.prog 32 #[capV c lit] w fun e w' => ∃ l', e = .returned (.tuple #[capV (dirF c) l', .int .i64 (dirE c)]) ∧ Bs w' w'.heap.size l' (dirF c).lit ∧ Below w.heap.size w w' := by
  have hc := capV_of hwf.keyL hwf.fpL hl
  have H1 := hide hwf.keyL
  have H2 := hide hwf.fpL
  have H3 := hide hl.one
  have HL := hide hl
  have HLB := hide hwf.litB
  have HWF := hide hwf
  obtain ⟨NN, HNN⟩ : ∃ x, Hid (CapD.none_ = x) := ⟨_, hide rfl⟩
  have HN1 := hide (show NN.key.length = 16 by rw [← HNN.out]; rfl)
  have HN2 := hide (show NN.fp.length = 32 by rw [← HNN.out]; rfl)
  have HNL := hide (show NN.lit = [] by rw [← HNN.out]; rfl)
  obtain ⟨CV, HCV⟩ : ∃ x, Hid (capV c lit = x) := ⟨_, hide rfl⟩
  by_cases hv : decide c.Valid = true
  · have HVA := hide (fun w => by have := Valid_ref c lit w hc; rw [hv, HCV.out] at this; exact this)
    by_cases h4 : c.kind < 4
    · have h4' : ¬ 4 ≤ c.kind := by omega
      have d4 : decide (c.kind < 4) = true := by simp [h4]
      have HF := hide (show dirF c = NN ∧ dirE c = 11 by rw [← HNN.out]; unfold dirF dirE dirOk; simp [h4'])
      rw [HF.out.1, HF.out.2]
      clear hv hc hwf hl
      rw [HCV.out]
      go_enter Tryd.func32, Tryd.ntmps32
      obtain ⟨g, hg⟩ : ∃ n, w.heap.size = n := ⟨_, rfl⟩
      go_wp2_with (first
          | go_skip
          | (refine wpList_cap_new _ rfl HCV.out.symm rfl H1.out H2.out H3.out ?_; intro w1 hb1 hw1 hs1; rw [hg] at hb1 ⊢; have HB := hide hb1; have HW := hide hw1; clear hb1 hw1)
          | (refine wpList_cap_zero rfl rfl ?_; rw [HNN.out]; intro w2 hb2 hw2 hs2; have hg2 : w1.heap.size = g + 1 := (by omega); rw [hg2] at hb2; try rw [hg2]; have HZ := hide hb2; replace HB := hide (HB.out.below hw2 HB.out.lt); replace HW := hide (HW.out.trans (hw2.mono HW.out.size)); clear hb2 hw2)
          | (refine wpList_cap_all _ rfl rfl rfl HB.out ?_; rw [HCV.out]))
      refine (HVA.out _).mono ?_
      rintro e w3 ⟨rfl, hb3⟩
      replace HB := hide (HB.out.below hb3 HB.out.lt)
      replace HZ := hide (HZ.out.below hb3 HZ.out.lt)
      replace HW := hide (HW.out.trans (hb3.mono HW.out.size))
      clear hb3
      go_wp2_with (first
          | go_skip
          | (refine wpList_cap_int _ rfl _ rfl rfl HB.out _ rfl ?_)
          | (refine wpList_none_cap rfl rfl ?_; rw [HNN.out])
          | (refine wpList_cap_putAll _ _ rfl rfl rfl HZ.out NN (.slice none 0 0) rfl HN1.out HN2.out rfl ?_; intro w6 hb6 hg6 hs6; replace HZ := hide hb6; replace HW := hide (HW.out.grown hg6 HW.out.size (by intro k hk; simp at hk; omega)); clear hb6 hg6))
      refine bodyPost_ret (results_cap_err rfl _ _ (g + 1) _ _ rfl HZ.out _ rfl) rfl ?_
      exact ⟨_, rfl, by rw [HNL.out]; exact Bs.nil_ _ _, HW.out⟩
    · have d4 : decide (c.kind < 4) = false := by simp; omega
      by_cases h6 : 6 < c.kind
      · have h6' : ¬ c.kind ≤ 6 := by omega
        have d6 : decide (6 < c.kind) = true := by simp [h6]
        have HF := hide (show dirF c = NN ∧ dirE c = 11 by rw [← HNN.out]; unfold dirF dirE dirOk; simp [h6'])
        rw [HF.out.1, HF.out.2]
        clear hv hc hwf hl
        rw [HCV.out]
        go_enter Tryd.func32, Tryd.ntmps32
        obtain ⟨g, hg⟩ : ∃ n, w.heap.size = n := ⟨_, rfl⟩
        go_wp2_with (first
            | go_skip
            | (refine wpList_cap_new _ rfl HCV.out.symm rfl H1.out H2.out H3.out ?_; intro w1 hb1 hw1 hs1; rw [hg] at hb1 ⊢; have HB := hide hb1; have HW := hide hw1; clear hb1 hw1)
            | (refine wpList_cap_zero rfl rfl ?_; rw [HNN.out]; intro w2 hb2 hw2 hs2; have hg2 : w1.heap.size = g + 1 := (by omega); rw [hg2] at hb2; try rw [hg2]; have HZ := hide hb2; replace HB := hide (HB.out.below hw2 HB.out.lt); replace HW := hide (HW.out.trans (hw2.mono HW.out.size)); clear hb2 hw2)
            | (refine wpList_cap_all _ rfl rfl rfl HB.out ?_; rw [HCV.out]))
        refine (HVA.out _).mono ?_
        rintro e w3 ⟨rfl, hb3⟩
        replace HB := hide (HB.out.below hb3 HB.out.lt)
        replace HZ := hide (HZ.out.below hb3 HZ.out.lt)
        replace HW := hide (HW.out.trans (hb3.mono HW.out.size))
        clear hb3
        go_wp2_with (first
            | go_skip
            | (refine wpList_cap_int _ rfl _ rfl rfl HB.out _ rfl ?_)
            | (refine wpList_none_cap rfl rfl ?_; rw [HNN.out])
            | (refine wpList_cap_putAll _ _ rfl rfl rfl HZ.out NN (.slice none 0 0) rfl HN1.out HN2.out rfl ?_; intro w6 hb6 hg6 hs6; replace HZ := hide hb6; replace HW := hide (HW.out.grown hg6 HW.out.size (by intro k hk; simp at hk; omega)); clear hb6 hg6))
        refine bodyPost_ret (results_cap_err rfl _ _ (g + 1) _ _ rfl HZ.out _ rfl) rfl ?_
        exact ⟨_, rfl, by rw [HNL.out]; exact Bs.nil_ _ _, HW.out⟩
      · have h4' : 4 ≤ c.kind := by omega
        have h6' : c.kind ≤ 6 := by omega
        have d6 : decide (6 < c.kind) = false := by simp; omega
        have hok : dirOk c = true := by unfold dirOk; rw [hv]; simp [h4', h6']
        have hcl : c.lit = [] := valid_lit (of_decide_eq_true hv) (by omega)
        have HE := hide (show dirE c = 0 by unfold dirE; rw [if_pos hok])
        obtain ⟨C1, HC1⟩ : ∃ x, Hid (dirF c = x) := ⟨_, hide rfl⟩
        have HC1E := hide (show ({ c with kind := c.kind + 3 } : CapD) = C1 by rw [← HC1.out]; unfold dirF; rw [if_pos hok])
        have HC1L := hide (show ({ c with kind := c.kind + 3, lit := [] } : CapD) = C1 by rw [← HC1E.out, ← hcl])
        have HCLN := hide hcl
        have HC1N := hide (show C1.lit = [] by rw [← HC1E.out]; exact hcl)
        rw [HC1.out, HE.out]
        clear hv hc hwf hl hok hcl
        rw [HCV.out]
        go_enter Tryd.func32, Tryd.ntmps32
        obtain ⟨g, hg⟩ : ∃ n, w.heap.size = n := ⟨_, rfl⟩
        go_wp2_with (first
            | go_skip
            | (refine wpList_cap_new _ rfl HCV.out.symm rfl H1.out H2.out H3.out ?_; intro w1 hb1 hw1 hs1; rw [hg] at hb1 ⊢; have HB := hide hb1; have HW := hide hw1; clear hb1 hw1)
            | (refine wpList_cap_zero rfl rfl ?_; rw [HNN.out]; intro w2 hb2 hw2 hs2; have hg2 : w1.heap.size = g + 1 := (by omega); rw [hg2] at hb2; try rw [hg2]; have HZ := hide hb2; replace HB := hide (HB.out.below hw2 HB.out.lt); replace HW := hide (HW.out.trans (hw2.mono HW.out.size)); clear hb2 hw2)
            | (refine wpList_cap_all _ rfl rfl rfl HB.out ?_; rw [HCV.out]))
        refine (HVA.out _).mono ?_
        rintro e w3 ⟨rfl, hb3⟩
        replace HB := hide (HB.out.below hb3 HB.out.lt)
        replace HZ := hide (HZ.out.below hb3 HZ.out.lt)
        replace HW := hide (HW.out.trans (hb3.mono HW.out.size))
        clear hb3
        go_wp2_with (first
            | go_skip
            | (refine wpList_cap_int _ rfl _ rfl rfl HB.out _ rfl ?_)
            | (refine wpList_cap_put _ _ rfl 0 rfl rfl HB.out (c.kind + 3) rfl { c with kind := c.kind + 3 } rfl ?_; intro w6 hb6 hg6 hs6; replace HB := hide (show CapB w6 g C1 lit from (by rw [← HC1E.out]; exact hb6)); replace HZ := hide (HZ.out.grown hg6 (by intro h; injection h with h; omega)); replace HW := hide (HW.out.grown hg6 HW.out.size (by intro k hk; simp at hk; omega)); clear hb6 hg6)
            | (refine wpList_cap_all _ rfl rfl rfl HB.out ?_)
            | (refine wpList_cap_putAll _ _ rfl rfl rfl HZ.out C1 lit rfl HB.out.keyL HB.out.fpL HB.out.one ?_; intro w7 hb7 hg7 hs7; replace HZ := hide hb7; replace HW := hide (HW.out.grown hg7 HW.out.size (by intro k hk; simp at hk; omega)); clear hb7 hg7))
        refine bodyPost_ret (results_cap_err rfl _ _ (g + 1) _ _ rfl HZ.out _ rfl) rfl ?_
        exact ⟨_, rfl, by have := (HL.out.below HW.out (Nat.le_refl _)).more HW.out.size; rw [HCLN.out] at this; rw [HC1N.out]; exact this, HW.out⟩
  · have HVA := hide (fun w => by have := Valid_ref c lit w hc; rw [Bool.not_eq_true _ |>.mp hv, HCV.out] at this; exact this)
    have HF := hide (show dirF c = NN ∧ dirE c = 11 by rw [← HNN.out]; unfold dirF dirE dirOk; simp [Bool.not_eq_true _ |>.mp hv])
    rw [HF.out.1, HF.out.2]
    clear hv hc hwf hl
    rw [HCV.out]
    go_enter Tryd.func32, Tryd.ntmps32
    obtain ⟨g, hg⟩ : ∃ n, w.heap.size = n := ⟨_, rfl⟩
    go_wp2_with (first
        | go_skip
        | (refine wpList_cap_new _ rfl HCV.out.symm rfl H1.out H2.out H3.out ?_; intro w1 hb1 hw1 hs1; rw [hg] at hb1 ⊢; have HB := hide hb1; have HW := hide hw1; clear hb1 hw1)
        | (refine wpList_cap_zero rfl rfl ?_; rw [HNN.out]; intro w2 hb2 hw2 hs2; have hg2 : w1.heap.size = g + 1 := (by omega); rw [hg2] at hb2; try rw [hg2]; have HZ := hide hb2; replace HB := hide (HB.out.below hw2 HB.out.lt); replace HW := hide (HW.out.trans (hw2.mono HW.out.size)); clear hb2 hw2)
        | (refine wpList_cap_all _ rfl rfl rfl HB.out ?_; rw [HCV.out]))
    refine (HVA.out _).mono ?_
    rintro e w3 ⟨rfl, hb3⟩
    replace HB := hide (HB.out.below hb3 HB.out.lt)
    replace HZ := hide (HZ.out.below hb3 HZ.out.lt)
    replace HW := hide (HW.out.trans (hb3.mono HW.out.size))
    clear hb3
    go_wp2_with (first
        | go_skip
        | (refine wpList_cap_int _ rfl _ rfl rfl HB.out _ rfl ?_)
        | (refine wpList_none_cap rfl rfl ?_; rw [HNN.out])
        | (refine wpList_cap_putAll _ _ rfl rfl rfl HZ.out NN (.slice none 0 0) rfl HN1.out HN2.out rfl ?_; intro w6 hb6 hg6 hs6; replace HZ := hide hb6; replace HW := hide (HW.out.grown hg6 HW.out.size (by intro k hk; simp at hk; omega)); clear hb6 hg6))
    refine bodyPost_ret (results_cap_err rfl _ _ (g + 1) _ _ rfl HZ.out _ rfl) rfl ?_
    exact ⟨_, rfl, by rw [HNL.out]; exact Bs.nil_ _ _, HW.out⟩
end Go.Proofs.YtgjepahhbecljaaDoor

namespace Go.Proofs.YtgjepahhbecljaaDoor
open Go Go.RowKit
set_option linter.unusedVariables false
set_option linter.unusedSimpArgs false
set_option maxRecDepth 100000
set_option maxHeartbeats 8000000
theorem Enabler_ref (c : CapD) (lit : Value) (n : Int) (w : World) (hwf : c.Wf) (hl : Bs w w.heap.size lit c.lit) (hn : c.lit.length ≤ 1000000) (hnr : -9223372036854775808 ≤ n ∧ n ≤ 9223372036854775807) :
    Calls Tryd.prog 34 #[capV c lit, .int .i64 n] w fun e w' => e = .returned (.tuple #[.agg (u8s (enF c n)).toArray, .int .i64 (enE c)]) ∧ Below w.heap.size w w' := by
  have hc := capV_of hwf.keyL hwf.fpL hl
  have H1 := hide hwf.keyL
  have H2 := hide hwf.fpL
  have H3 := hide hl.one
  have HL := hide hl
  have HLB := hide hwf.litB
  have HWF := hide hwf
  obtain ⟨NN, HNN⟩ : ∃ x, Hid (CapD.none_ = x) := ⟨_, hide rfl⟩
  have HN1 := hide (show NN.key.length = 16 by rw [← HNN.out]; rfl)
  have HN2 := hide (show NN.fp.length = 32 by rw [← HNN.out]; rfl)
  have HNL := hide (show NN.lit = [] by rw [← HNN.out]; rfl)
  obtain ⟨CV, HCV⟩ : ∃ x, Hid (capV c lit = x) := ⟨_, hide rfl⟩
  by_cases hw : writeF c = true
  · have HWR := hide (fun w => by have := write_ref c lit w hc; rw [hw, HCV.out] at this; exact this)
    obtain ⟨RES, HRES0⟩ : ∃ x, Hid (enF c n = x) := ⟨_, hide rfl⟩
    have HRES := hide (show shortF (strB tEnable) [c.key, putF n 2] = RES by rw [← HRES0.out]; unfold enF; rw [if_pos hw])
    have HRSL := hide (show RES.length = 16 by rw [← HRES.out]; exact shortF_len _ _)
    have HE := hide (show enE c = 0 by unfold enE; rw [if_pos hw])
    have HRB := hide (show ∀ x ∈ [c.key, putF n 2], Bytes x from fun x hx => by
      simp at hx
      rcases hx with rfl | rfl
      · exact hwf.keyB
      · exact putF_bytes _ _)
    have HRL := hide (show ∀ x ∈ [c.key, putF n 2], x.length ≤ 1000000 from fun x hx => by
      simp at hx
      rcases hx with rfl | rfl
      · rw [hwf.keyL]; omega
      · have := wid_le 2
        unfold putF
        rw [putN_len]
        omega)
    rw [HRES0.out, HE.out]
    clear hw hc hwf hl
    rw [HCV.out]
    go_enter Tryd.func34, Tryd.ntmps34
    obtain ⟨g, hg⟩ : ∃ n, w.heap.size = n := ⟨_, rfl⟩
    go_wp2_with (first
        | (refine wpList_cap_new _ rfl HCV.out.symm rfl H1.out H2.out H3.out ?_; intro w1 hb1 hw1 hs1; rw [hg] at hb1 ⊢; have HB := hide hb1; have HW := hide hw1; clear hb1 hw1)
        | (refine wpList_alloc_blk rfl 23 rfl _ zero_key ?_; intro w2 hb2 hw2 hs2; have hg2 : w1.heap.size = g + 1 := (by omega); rw [hg2] at hb2; try rw [hg2]; have HZ := hide hb2; replace HB := hide (HB.out.below hw2 HB.out.lt); replace HW := hide (HW.out.trans (hw2.mono HW.out.size)); clear hb2 hw2)
        | (refine wpList_cap_all _ rfl rfl rfl HB.out ?_; rw [HCV.out]))
    refine (HWR.out _).mono ?_
    rintro e w3 ⟨rfl, hb3⟩
    replace HB := hide (HB.out.below hb3 HB.out.lt)
    replace HZ := hide (HZ.out.below hb3 HZ.out.lt)
    replace HW := hide (HW.out.trans (hb3.mono HW.out.size))
    clear hb3
    go_upto_region 3 with fail
    refine wp_region_held_drew (S := fun w' => Below w.heap.size w w') (by kernel_rfl) HW.out.drew (fun hHeld => ?_)
    replace HB := hide (HB.out.below ((Below.refl _ _).drew) HB.out.lt)
    replace HZ := hide (HZ.out.below ((Below.refl _ _).drew) HZ.out.lt)
    refine take_d 10 (i := 0) (v := .pointer (some ⟨g, 1, none⟩)) rfl (by kernel_rfl) (by kernel_rfl) (by kernel_rfl) (by kernel_rfl) (fun _ _ _ h => h) (Or.inl ⟨by kernel_rfl, fun w' hS => exec_field _ 1 1 rfl g rfl rfl⟩) hHeld ?_
    try simp only [Act.put, List.setIfInBounds_toArray, List.set_cons_zero, List.set_cons_succ]
    refine take_d 11 (i := 1) (v := .slice (some ⟨g, 1, none⟩) 16 16) rfl (by kernel_rfl) (by kernel_rfl) (by kernel_rfl) (by kernel_rfl) (fun _ _ _ h => h) (Or.inl ⟨by kernel_rfl, fun w' hS => exec_slice_key _ rfl g 1 rfl⟩) hHeld ?_
    try simp only [Act.put, List.setIfInBounds_toArray, List.set_cons_zero, List.set_cons_succ]
    refine take_d 12 (i := 2) (v := .int .i64 n) rfl (by kernel_rfl) (by kernel_rfl) (by kernel_rfl) (by kernel_rfl) (fun _ _ _ h => h) (Or.inl ⟨by kernel_rfl, fun w' hS => exec_move _ rfl _ rfl⟩) hHeld ?_
    try simp only [Act.put, List.setIfInBounds_toArray, List.set_cons_zero, List.set_cons_succ]
    refine wpAnyH_ready (rs := [3]) (by kernel_rfl) (by simp) (AllReadyH.cons rfl (fun K hK => ?_) AllReadyH.nil)
    rw [if_pos (by kernel_rfl)]
    try go_simp
    refine (Put_ref n 2 _ hnr (by omega)).mono ?_
    rintro e wc ⟨v13, rfl, ho, hb⟩
    have HC13 := hide ho.cells
    have HO := hide ho.reads
    have HX := hide (hHeld.trans (hb.mono hHeld.size))
    replace HB := hide (HB.out.below hb HB.out.lt)
    replace HZ := hide (HZ.out.below hb HZ.out.lt)
    clear hb ho
    refine hK.out _ _ HX.out (fun hHeld => ?_)
    clear HX hK K
    try simp only [Act.put, List.setIfInBounds_toArray, List.set_cons_zero, List.set_cons_succ]
    refine wpAnyH_ready (rs := [4]) (by kernel_rfl) (by simp) (AllReadyH.cons rfl (fun K hK => ?_) AllReadyH.nil)
    rw [if_pos (by kernel_rfl)]
    refine wp_rows2D 14 rfl _ _ rfl (.slice (some ⟨g, 1, none⟩) 16 16) v13 rfl rfl rfl HC13.out ?_
    intro wd hbd hwd
    obtain ⟨gd, hgd⟩ : ∃ n, wc.heap.size = n := ⟨_, rfl⟩
    rw [hgd] at hbd ⊢
    have HX := hide (hHeld.trans (hwd.mono hHeld.size))
    replace HB := hide (HB.out.below hwd HB.out.lt)
    have HRW := hide (rows_two hbd (HB.out.keyRow HB.out.blk.lt) ((HO.out.below hwd (Nat.le_refl _)).more hwd.size))
    replace HZ := hide (HZ.out.below hwd HZ.out.lt)
    clear hbd hwd
    refine hK.out _ _ HX.out (fun hHeld => ?_)
    clear HX hK K
    try simp only [Act.put, List.setIfInBounds_toArray, List.set_cons_zero, List.set_cons_succ]
    refine wpAnyH_ready (rs := [5]) (by kernel_rfl) (by simp) (AllReadyH.cons rfl (fun K hK => ?_) AllReadyH.nil)
    rw [if_pos (by kernel_rfl)]
    try go_simp
    refine (Short_ref tEnable _ [c.key, putF n 2] _ HRW.out HRB.out HRL.out (by simp) (by decide)).mono ?_
    rintro e we ⟨rfl, hb⟩
    rw [HRES.out]
    have HX := hide (hHeld.trans (hb.mono hHeld.size))
    replace HZ := hide (HZ.out.below hb HZ.out.lt)
    clear hb
    refine hK.out _ _ HX.out (fun hHeld => ?_)
    clear HX hK K
    try simp only [Act.put, List.setIfInBounds_toArray, List.set_cons_zero, List.set_cons_succ]
    refine wpAnyH_ready (rs := [6]) (by kernel_rfl) (by simp) (AllReadyH.cons rfl (fun K hK => ?_) AllReadyH.nil)
    rw [if_pos (by kernel_rfl)]
    refine wp_store_blkD 23 _ _ rfl rfl (g + 1) 0 (u8s RES) rfl rfl _ _ HZ.out (by rw [u8s_len, u8s_len, HRSL.out]; simp) (by rw [u8s_len, HRSL.out]; exact size_key) (u8s_one _) ?_
    intro ws hb5 hg5 hs5
    rw [lset_all _ _ (by rw [u8s_len, u8s_len, HRSL.out]; rfl)] at hb5
    replace HZ := hide hb5
    have HX := hide (hHeld.grown hg5 hHeld.size (by intro k hk; simp at hk; omega))
    clear hb5 hg5 hs5
    refine hK.out _ _ HX.out (fun hHeld => ?_)
    clear HX hK K
    try simp only [Act.put, List.setIfInBounds_toArray, List.set_cons_zero, List.set_cons_succ]
    refine take_d 5 (i := 7) (v := .int .i64 0) rfl (by kernel_rfl) (by kernel_rfl) (by kernel_rfl) (by kernel_rfl) (fun _ _ _ h => h) (Or.inl ⟨by kernel_rfl, fun w' hS => exec_assign _ rfl _ rfl⟩) hHeld ?_
    try simp only [Act.put, List.setIfInBounds_toArray, List.set_cons_zero, List.set_cons_succ]
    refine wpAnyH_done (by kernel_rfl) ?_ _
    replace HW := hide hHeld
    clear hHeld
    go_wp2_with fail
    refine bodyPost_ret (results_key_err rfl _ _ (g + 1) RES rfl HZ.out HRSL.out _ rfl) rfl ?_
    exact ⟨rfl, HW.out⟩
  · have HWR := hide (fun w => by have := write_ref c lit w hc; rw [Bool.not_eq_true _ |>.mp hw, HCV.out] at this; exact this)
    have HF := hide (show enF c n = zeros 16 ∧ enE c = 11 by unfold enF enE; rw [if_neg hw, if_neg hw]; exact ⟨rfl, rfl⟩)
    obtain ⟨Z16, HZ16⟩ : ∃ x, Hid (zeros 16 = x) := ⟨_, hide rfl⟩
    have HZL := hide (show Z16.length = 16 by rw [← HZ16.out]; rfl)
    rw [HF.out.1, HF.out.2, HZ16.out]
    clear hw hc hwf hl
    rw [HCV.out]
    go_enter Tryd.func34, Tryd.ntmps34
    obtain ⟨g, hg⟩ : ∃ n, w.heap.size = n := ⟨_, rfl⟩
    go_wp2_with (first
        | (refine wpList_cap_new _ rfl HCV.out.symm rfl H1.out H2.out H3.out ?_; intro w1 hb1 hw1 hs1; rw [hg] at hb1 ⊢; have HB := hide hb1; have HW := hide hw1; clear hb1 hw1)
        | (refine wpList_alloc_blk rfl 23 rfl _ zero_key ?_; intro w2 hb2 hw2 hs2; have hg2 : w1.heap.size = g + 1 := (by omega); rw [hg2] at hb2; try rw [hg2]; have HZ := hide hb2; replace HB := hide (HB.out.below hw2 HB.out.lt); replace HW := hide (HW.out.trans (hw2.mono HW.out.size)); clear hb2 hw2)
        | (refine wpList_cap_all _ rfl rfl rfl HB.out ?_; rw [HCV.out]))
    refine (HWR.out _).mono ?_
    rintro e w3 ⟨rfl, hb3⟩
    replace HB := hide (HB.out.below hb3 HB.out.lt)
    replace HZ := hide (HZ.out.below hb3 HZ.out.lt)
    replace HW := hide (HW.out.trans (hb3.mono HW.out.size))
    clear hb3
    go_wp2_with (first
        | (refine wpList_zero_key rfl rfl ?_; rw [HZ16.out])
        | (refine wpList_store_blk rfl 23 _ _ rfl (g + 1) 0 (u8s Z16) rfl rfl _ _ HZ.out (by rw [u8s_len, u8s_len, HZL.out]; simp) (by rw [u8s_len, HZL.out]; exact size_key) (u8s_one _) ?_; intro w7 hb7 hg7 hs7; rw [lset_all _ _ (by rw [u8s_len, u8s_len, HZL.out]; rfl)] at hb7; replace HZ := hide hb7; replace HW := hide (HW.out.grown hg7 HW.out.size (by intro k hk; simp at hk; omega)); clear hb7 hg7))
    refine bodyPost_ret (results_key_err rfl _ _ (g + 1) Z16 rfl HZ.out HZL.out _ rfl) rfl ?_
    exact ⟨rfl, HW.out⟩
theorem Renewal_ref (a b : List Int) (n : Int) (w : World) (h1 : a.length = 16) (ha : Bytes a) (h2 : b.length = 16) (hb : Bytes b) (hnr : -9223372036854775808 ≤ n ∧ n ≤ 9223372036854775807) :
    Calls Tryd.prog 38 #[.agg (u8s a).toArray, .agg (u8s b).toArray, .int .i64 n] w fun e w' => e = .returned (.agg (u8s (rnF a b n)).toArray) ∧ Below w.heap.size w w' := by
  have H1 := hide h1
  have H2 := hide h2
  obtain ⟨RES, HRES⟩ : ∃ x, Hid (shortF (strB tRenew) [a, b, putF n 2] = x) := ⟨_, hide rfl⟩
  have HRSL := hide (show RES.length = 16 by rw [← HRES.out]; exact shortF_len _ _)
  have HRF := hide (show rnF a b n = RES from HRES.out)
  have HRB := hide (show ∀ x ∈ [a, b, putF n 2], Bytes x from fun x hx => by
    simp at hx
    rcases hx with rfl | rfl | rfl
    · exact ha
    · exact hb
    · exact putF_bytes _ _)
  have HRL := hide (show ∀ x ∈ [a, b, putF n 2], x.length ≤ 1000000 from fun x hx => by
    simp at hx
    rcases hx with rfl | rfl | rfl
    · omega
    · omega
    · have := wid_le 2
      unfold putF
      rw [putN_len]
      omega)
  obtain ⟨AV, HAV⟩ : ∃ x, Hid (Value.agg (u8s a).toArray = x) := ⟨_, hide rfl⟩
  obtain ⟨BV, HBV⟩ : ∃ x, Hid (Value.agg (u8s b).toArray = x) := ⟨_, hide rfl⟩
  rw [HRF.out, HAV.out, HBV.out]
  clear h1 ha h2 hb
  go_enter Tryd.func38, Tryd.ntmps38
  obtain ⟨g, hg⟩ : ∃ n, w.heap.size = n := ⟨_, rfl⟩
  go_upto_region 1 with (first
    | (refine wpList_alloc_blk rfl 23 rfl _ zero_key ?_; intro w3 hb3 hw3 hs3; have hg3 : w2.heap.size = g + 1 + 1 := (by omega); rw [hg3] at hb3; try rw [hg3]; have HZ := hide hb3; replace HA := hide (HA.out.below hw3 HA.out.lt); replace HI := hide (HI.out.below hw3 HI.out.lt); replace HW := hide (HW.out.trans (hw3.mono HW.out.size)); clear hb3 hw3)
    | (refine wpList_box_key _ rfl b HBV.out.symm rfl ?_; intro w2 hb2 hw2 hs2; have hg2 : w1.heap.size = g + 1 := (by omega); rw [hg2] at hb2; try rw [hg2]; have HI := hide hb2; replace HA := hide (HA.out.below hw2 HA.out.lt); replace HW := hide (HW.out.trans (hw2.mono HW.out.size)); clear hb2 hw2)
    | (refine wpList_box_key _ rfl a HAV.out.symm rfl ?_; intro w1 hb1 hw1 hs1; rw [hg] at hb1 ⊢; have HA := hide hb1; have HW := hide hw1; clear hb1 hw1))
  refine wp_region_held_drew (S := fun w' => Below w.heap.size w w') (by kernel_rfl) HW.out.drew (fun hHeld => ?_)
  replace HA := hide (HA.out.drew)
  replace HI := hide (HI.out.drew)
  replace HZ := hide (HZ.out.drew)
  refine take_d 7 (i := 0) (v := .slice (some ⟨g, 0, none⟩) 16 16) rfl (by kernel_rfl) (by kernel_rfl) (by kernel_rfl) (by kernel_rfl) (fun _ _ _ h => h) (Or.inl ⟨by kernel_rfl, fun w' hS => exec_slice_key _ rfl g 0 rfl⟩) hHeld ?_
  try simp only [Act.put, List.setIfInBounds_toArray, List.set_cons_zero, List.set_cons_succ]
  refine take_d 8 (i := 1) (v := .slice (some ⟨g + 1, 0, none⟩) 16 16) rfl (by kernel_rfl) (by kernel_rfl) (by kernel_rfl) (by kernel_rfl) (fun _ _ _ h => h) (Or.inl ⟨by kernel_rfl, fun w' hS => exec_slice_key _ rfl (g + 1) 0 rfl⟩) hHeld ?_
  try simp only [Act.put, List.setIfInBounds_toArray, List.set_cons_zero, List.set_cons_succ]
  refine take_d 9 (i := 2) (v := .int .i64 n) rfl (by kernel_rfl) (by kernel_rfl) (by kernel_rfl) (by kernel_rfl) (fun _ _ _ h => h) (Or.inl ⟨by kernel_rfl, fun w' hS => exec_move _ rfl _ rfl⟩) hHeld ?_
  try simp only [Act.put, List.setIfInBounds_toArray, List.set_cons_zero, List.set_cons_succ]
  refine wpAnyH_ready (rs := [3]) (by kernel_rfl) (by simp) (AllReadyH.cons rfl (fun K hK => ?_) AllReadyH.nil)
  rw [if_pos (by kernel_rfl)]
  try go_simp
  refine (Put_ref n 2 _ hnr (by omega)).mono ?_
  rintro e wc ⟨v13, rfl, ho, hb⟩
  have HC13 := hide ho.cells
  have HO := hide ho.reads
  have HX := hide (hHeld.trans (hb.mono hHeld.size))
  replace HA := hide (HA.out.below hb HA.out.lt)
  replace HI := hide (HI.out.below hb HI.out.lt)
  replace HZ := hide (HZ.out.below hb HZ.out.lt)
  clear hb ho
  refine hK.out _ _ HX.out (fun hHeld => ?_)
  clear HX hK K
  try simp only [Act.put, List.setIfInBounds_toArray, List.set_cons_zero, List.set_cons_succ]
  refine wpAnyH_ready (rs := [4]) (by kernel_rfl) (by simp) (AllReadyH.cons rfl (fun K hK => ?_) AllReadyH.nil)
  rw [if_pos (by kernel_rfl)]
  refine wp_rows3D 11 rfl _ _ _ rfl (.slice (some ⟨g, 0, none⟩) 16 16) (.slice (some ⟨g + 1, 0, none⟩) 16 16) v13 rfl rfl rfl rfl rfl HC13.out ?_
  intro wd hbd hwd
  obtain ⟨gd, hgd⟩ : ∃ n, wc.heap.size = n := ⟨_, rfl⟩
  rw [hgd] at hbd ⊢
  have HX := hide (hHeld.trans (hwd.mono hHeld.size))
  replace HA := hide (HA.out.below hwd HA.out.lt)
  replace HI := hide (HI.out.below hwd HI.out.lt)
  have HRW := hide (rows_three hbd (HA.out.reads H1.out (by omega)) (HI.out.reads H2.out (by omega)) ((HO.out.below hwd (Nat.le_refl _)).more hwd.size))
  replace HZ := hide (HZ.out.below hwd HZ.out.lt)
  clear hbd hwd
  refine hK.out _ _ HX.out (fun hHeld => ?_)
  clear HX hK K
  try simp only [Act.put, List.setIfInBounds_toArray, List.set_cons_zero, List.set_cons_succ]
  refine wpAnyH_ready (rs := [5]) (by kernel_rfl) (by simp) (AllReadyH.cons rfl (fun K hK => ?_) AllReadyH.nil)
  rw [if_pos (by kernel_rfl)]
  try go_simp
  refine (Short_ref tRenew _ [a, b, putF n 2] _ HRW.out HRB.out HRL.out (by simp) (by decide)).mono ?_
  rintro e we ⟨rfl, hb⟩
  rw [HRES.out]
  have HX := hide (hHeld.trans (hb.mono hHeld.size))
  replace HZ := hide (HZ.out.below hb HZ.out.lt)
  clear hb
  refine hK.out _ _ HX.out (fun hHeld => ?_)
  clear HX hK K
  try simp only [Act.put, List.setIfInBounds_toArray, List.set_cons_zero, List.set_cons_succ]
  refine wpAnyH_ready (rs := [6]) (by kernel_rfl) (by simp) (AllReadyH.cons rfl (fun K hK => ?_) AllReadyH.nil)
  rw [if_pos (by kernel_rfl)]
  refine wp_store_blkD 23 _ _ rfl rfl (g + 1 + 1) 0 (u8s RES) rfl rfl _ _ HZ.out (by rw [u8s_len, u8s_len, HRSL.out]; simp) (by rw [u8s_len, HRSL.out]; exact size_key) (u8s_one _) ?_
  intro ws hb5 hg5 hs5
  rw [lset_all _ _ (by rw [u8s_len, u8s_len, HRSL.out]; rfl)] at hb5
  replace HZ := hide hb5
  have HX := hide (hHeld.grown hg5 hHeld.size (by intro k hk; simp at hk; omega))
  clear hb5 hg5 hs5
  refine hK.out _ _ HX.out (fun hHeld => ?_)
  clear HX hK K
  try simp only [Act.put, List.setIfInBounds_toArray, List.set_cons_zero, List.set_cons_succ]
  refine wpAnyH_done (by kernel_rfl) ?_ _
  replace HW := hide hHeld
  clear hHeld
  go_wp2_with fail
  refine bodyPost_ret (v := .agg (u8s RES).toArray) (results_cell_row rfl _ _ (g + 1 + 1) 23 _ (0, 0) _ rfl HZ.out Tryd.underlying23 rfl (by rw [List.size_toArray, u8s_len, HRSL.out]; exact size_key)) rfl ?_
  exact ⟨rfl, HW.out⟩
end Go.Proofs.YtgjepahhbecljaaDoor
