/- caps.ReadOnly, VerifyOnly, Index: what may only read, only verify the same; where it is kept. Condition: the table of powers of ten stands. -/
import Derived.Test.YthdjgebbjogmiaaDoorJoin19
set_option linter.unusedVariables false
set_option linter.unusedSimpArgs false
namespace Go.Proofs.YthdjgebbjogmiaaDoor
open Go Go.RowKit

section
variable {o : Oper} {a : Act} {w : World} {K : Act → World → Prop} {Q : Exit → Act → World → Prop} {g : Nat} {c : CapD} {lit : Value}
theorem wp_cap_intD (d : Nat) (hd : o.dst = some d) (x : Operand) (ho : o.op = .load 3 x) (off : Nat) (hx : a.eval x = .pointer (some ⟨g, off, none⟩)) (hB : CapB w g c lit)
 (n : Int) (hn : capInt c off = some n) (h : K (a.put (some d) (.int .i64 n)) w) : o.wp Tryd.prog a w K Q :=
 wp_load_one _ x ho g off hx _ Tryd.underlying3 rfl _ (hB.int_ hn) (by rw [hd]; exact h)
theorem wp_cap_keyD (d : Nat) (hd : o.dst = some d) (x : Operand) (ho : o.op = .load 23 x) (hx : a.eval x = .pointer (some ⟨g, 1, none⟩)) (hB : CapB w g c lit)
 (h : K (a.put (some d) (.agg (u8s c.key).toArray)) w) : o.wp Tryd.prog a w K Q :=
 wp_load_mid _ x ho g 1 hx _ _ hB.keyRange Tryd.underlying23 rfl (by rw [u8s_len, hB.keyL]; exact size_key) (by rw [hd]; exact h)
end
theorem capV_of {c : CapD} {lit : Value} {w : World} {B : Nat} (h1 : c.key.length = 16) (h2 : c.fp.length = 32) (hl : Bs w B lit c.lit) : CapV c lit := by
 obtain ⟨A, k, rfl, _⟩ := hl.open_
 exact ⟨h1, h2, A, k, rfl⟩
set_option linter.unusedVariables false
set_option linter.unusedSimpArgs false
set_option maxRecDepth 100000
set_option maxHeartbeats 8000000
theorem ReadOnly_any (c : CapD) (lit : Value) (w : World) (hwf : c.Wf) (hl : Bs w w.heap.size lit c.lit) (hn : c.lit.length ≤ 1000000) (ht : Tab w w.heap.size) :
 Calls Tryd.prog 28 #[capV c lit] w fun e w' => ∃ l', e = .returned (.tuple #[capV (roF c) l', .int .i64 (roE c)]) ∧ Bs w' w'.heap.size l' (roF c).lit ∧ Below w.heap.size w w' := by
 have hc := capV_of hwf.keyL hwf.fpL hl
 have H1 := hide hwf.keyL
 have H2 := hide hwf.fpL
 have H3 := hide hl.one
 have HL := hide hl
 have HLB := hide hwf.litB
 have HWF := hide hwf
 have HT := hide ht
 obtain ⟨NN, HNN⟩ : ∃ x, Hid (CapD.none_ = x) := ⟨_, hide rfl⟩
 have HN1 := hide (show NN.key.length = 16 by rw [← HNN.out]; rfl)
 have HN2 := hide (show NN.fp.length = 32 by rw [← HNN.out]; rfl)
 have HNL := hide (show NN.lit = [] by rw [← HNN.out]; rfl)
 obtain ⟨CV, HCV⟩ : ∃ x, Hid (capV c lit = x) := ⟨_, hide rfl⟩
 by_cases hr : readF c = true
 · have HRD := hide (fun w => by have := read_any c lit w hc; rw [hr, HCV.out] at this; exact this)
   have HE := hide (show roE c = 0 by unfold roE; rw [if_pos hr])
   have hkd := valid_kind (readF_kind hr).1
   by_cases hw : writeF c = true
   · have HWR := hide (fun w => by have := write_any c lit w hc; rw [hw, HCV.out] at this; exact this)
     obtain ⟨KV, HKV⟩ : ∃ x, Hid (Value.agg (u8s c.key).toArray = x) := ⟨_, hide rfl⟩
     obtain ⟨KR, HKR0⟩ : ∃ x, Hid (keyF tRead c.key = x) := ⟨_, hide rfl⟩
     have HKL := hide (show KR.length = 16 by rw [← HKR0.out]; exact keyF_len _ _)
     obtain ⟨KRV, HKR⟩ : ∃ x, Hid (Value.agg (u8s KR).toArray = x) := ⟨_, hide rfl⟩
     have HSH := hide (fun w' (ht : Tab w' w'.heap.size) => by have := short_any tRead c.key w' hwf.keyL hwf.keyB (by decide) ht; rw [HKV.out, HKR0.out, HKR.out] at this; exact this)
     obtain ⟨C1, HC1⟩ : ∃ x, Hid (roF c = x) := ⟨_, hide rfl⟩
     have HC1E := hide (show { c with kind := c.kind + 1, key := KR } = C1 by rw [← HC1.out, ← HKR0.out]; unfold roF; rw [if_pos hr, if_pos hw])
     have HC1L := hide (show { C1 with lit := c.lit } = C1 by rw [← HC1E.out])
     have HCL := hide (show C1.lit = c.lit by rw [← HC1E.out])
     rw [HC1.out, HE.out]
     clear hr hw hc hwf hl ht
     rw [HCV.out]
     go_enter Tryd.func28, Tryd.ntmps28
     obtain ⟨g, hg⟩ : ∃ n, w.heap.size = n := ⟨_, rfl⟩
     go_wp2_with (first
      | (refine wpList_cap_new _ rfl HCV.out.symm rfl H1.out H2.out H3.out ?_; intro w1 hb1 hw1 hs1; rw [hg] at hb1 ⊢; have HB := hide hb1; have HW := hide hw1; clear hb1 hw1)
      | (refine wpList_cap_zero rfl rfl ?_; rw [HNN.out]; intro w2 hb2 hw2 hs2; have hg2 : w1.heap.size = g + 1 := (by omega); rw [hg2] at hb2; try rw [hg2]; have HZ := hide hb2; replace HB := hide (HB.out.below hw2 HB.out.lt); replace HW := hide (HW.out.trans (hw2.mono HW.out.size)); clear hb2 hw2)
      | (refine wpList_cap_all _ rfl rfl rfl HB.out ?_; rw [HCV.out]))
     refine (HRD.out _).mono ?_
     rintro e w3 ⟨rfl, hb3⟩
     replace HB := hide (HB.out.below hb3 HB.out.lt)
     replace HZ := hide (HZ.out.below hb3 HZ.out.lt)
     replace HW := hide (HW.out.trans (hb3.mono HW.out.size))
     clear hb3
     go_wp2_with (refine wpList_cap_all _ rfl rfl rfl HB.out ?_; rw [HCV.out])
     refine (HWR.out _).mono ?_
     rintro e w3 ⟨rfl, hb3⟩
     replace HB := hide (HB.out.below hb3 HB.out.lt)
     replace HZ := hide (HZ.out.below hb3 HZ.out.lt)
     replace HW := hide (HW.out.trans (hb3.mono HW.out.size))
     clear hb3
     go_upto_region 4 with fail
     refine wp_region_held_drew (S := fun w' => Below w.heap.size w w') (by kernel_rfl) HW.out.drew (fun hHeld => ?_)
     replace HB := hide (HB.out.below ((Below.refl _ _).drew) HB.out.lt)
     replace HZ := hide (HZ.out.below ((Below.refl _ _).drew) HZ.out.lt)
     refine take_e 10 (i := 0) (v := .pointer (some ⟨g, 0, none⟩)) rfl (by kernel_rfl) (Or.inl ⟨by kernel_rfl, fun w' hS => exec_field _ 0 0 rfl g rfl rfl⟩) hHeld ?_
     try simp only [Act.put, s1_, s2_, s3_]
     refine take_e 13 (i := 3) (v := .pointer (some ⟨g, 1, none⟩)) rfl (by kernel_rfl) (Or.inl ⟨by kernel_rfl, fun w' hS => exec_field _ 1 1 rfl g rfl rfl⟩) hHeld ?_
     try simp only [Act.put, s1_, s2_, s3_]
     refine wpAnyH_ready (rs := [1, 4]) (by kernel_rfl) (by simp) (AllReadyH.cons rfl (fun K hK => ?q1_1) (AllReadyH.cons rfl (fun K hK => ?q2_4) AllReadyH.nil))
     case q1_1 =>
      rw [if_pos (by kernel_rfl)]
      refine wp_cap_intD 11 rfl _ rfl 0 rfl HB.out _ rfl ?_
      refine hK.out _ _ hHeld (fun hHeld => ?_)
      clear hK K
      try simp only [Act.put, s1_, s2_, s3_]
      refine take_e 12 (i := 2) (v := .int .i64 (c.kind + 1)) rfl (by kernel_rfl) (Or.inl ⟨by kernel_rfl, fun w' hS => exec_i64_add _ _ _ rfl _ _ _ rfl rfl (IntWalk.i64_in _ (by omega))⟩) hHeld ?_
      try simp only [Act.put, s1_, s2_, s3_]
      refine wpAnyH_ready (rs := [4]) (by kernel_rfl) (by simp) (AllReadyH.cons rfl (fun K hK => ?_) AllReadyH.nil)
      rw [if_pos (by kernel_rfl)]
      refine wp_cap_keyD 14 rfl _ rfl rfl HB.out ?_
      rw [HKV.out]
      refine hK.out _ _ hHeld (fun hHeld => ?_)
      clear hK K
      try simp only [Act.put, s1_, s2_, s3_]
      refine take_e 16 (i := 6) (v := .pointer (some ⟨g, 0, none⟩)) rfl (by kernel_rfl) (Or.inl ⟨by kernel_rfl, fun w' hS => exec_field _ 0 0 rfl g rfl rfl⟩) hHeld ?_
      try simp only [Act.put, s1_, s2_, s3_]
      refine wpAnyH_ready (rs := [5]) (by kernel_rfl) (by simp) (AllReadyH.cons rfl (fun K hK => ?_) AllReadyH.nil)
      rw [if_pos (by kernel_rfl)]
      try go_simp
      refine (HSH.out _ ((HT.out.below hHeld (Nat.le_refl _)).more hHeld.size)).mono ?_
      rintro e wc ⟨rfl, hb⟩
      have HX := hide (hHeld.trans (hb.mono hHeld.size))
      replace HB := hide (HB.out.below hb HB.out.lt)
      replace HZ := hide (HZ.out.below hb HZ.out.lt)
      clear hb
      refine hK.out _ _ HX.out (fun hHeld => ?_)
      clear HX hK K
      try simp only [Act.put, s1_, s2_, s3_]
      refine wpAnyH_ready (rs := [7]) (by kernel_rfl) (by simp) (AllReadyH.cons rfl (fun K hK => ?_) AllReadyH.nil)
      rw [if_pos (by kernel_rfl)]
      refine wp_cap_putD rfl _ _ rfl 0 rfl HB.out (c.kind + 1) rfl { c with kind := c.kind + 1 } rfl ?_
      intro ws hb5 hg5 hs5
      replace HB := hide hb5
      replace HZ := hide (HZ.out.grown hg5 (by intro h; injection h with h; omega))
      have HX := hide (hHeld.grown hg5 hHeld.size (by intro k hk; simp at hk; omega))
      clear hb5 hg5 hs5
      refine hK.out _ _ HX.out (fun hHeld => ?_)
      clear HX hK K
      try simp only [Act.put, s1_, s2_, s3_]
      refine take_e 17 (i := 8) (v := .pointer (some ⟨g, 1, none⟩)) rfl (by kernel_rfl) (Or.inl ⟨by kernel_rfl, fun w' hS => exec_field _ 1 1 rfl g rfl rfl⟩) hHeld ?_
      try simp only [Act.put, s1_, s2_, s3_]
      refine wpAnyH_ready (rs := [9]) (by kernel_rfl) (by simp) (AllReadyH.cons rfl (fun K hK => ?_) AllReadyH.nil)
      rw [if_pos (by kernel_rfl)]
      refine wp_cap_putKeyD rfl _ _ rfl rfl HB.out KR HKR.out.symm HKL.out ?_
      intro ws hb5 hg5 hs5
      replace HB := hide hb5
      replace HZ := hide (HZ.out.grown hg5 (by intro h; injection h with h; omega))
      have HX := hide (hHeld.grown hg5 hHeld.size (by intro k hk; simp at hk; omega))
      clear hb5 hg5 hs5
      refine hK.out _ _ HX.out (fun hHeld => ?_)
      clear HX hK K
      try simp only [Act.put, s1_, s2_, s3_]
      refine wpAnyH_done (by kernel_rfl) ?_ _
      replace HW := hide hHeld
      clear hHeld
      replace HB := hide (show CapB _ g C1 lit by rw [← HC1E.out]; exact HB.out)
      go_wp2_with (first
       | (refine wpList_cap_lit _ rfl rfl rfl HB.out ?_)
       | (at_builtin; refine wpList_append_B rfl _ _ rfl (g + 2) (.slice none 0 0) [] rfl (RowB.nil_ _ _) w.heap.size lit c.lit rfl (HL.out.below HW.out (Nat.le_refl _)) HLB.out (by simp; omega) (by have := HZ.out.lt; omega) ?_; intro l5 w5 ho5 hg5; rw [List.nil_append] at ho5; have HO5 := hide ho5; have L5 := hide ho5.one; replace HB := hide (HB.out.grown hg5 (by simp [Value.ownBlock])); replace HZ := hide (HZ.out.grown hg5 (by simp [Value.ownBlock])); replace HW := hide (HW.out.grown hg5 HW.out.size (by intro k hk; simp [Value.ownBlock] at hk)); clear ho5 hg5)
       | (refine wpList_cap_putLit _ _ rfl rfl rfl HB.out l5 rfl L5.out c.lit ?_; intro w6 hb6 hg6 hs6; replace HB := hide (show CapB w6 g C1 l5 from (by rw [← HC1L.out]; exact hb6)); replace HZ := hide (HZ.out.grown hg6 (by intro h; injection h with h; omega)); replace HO5 := hide (RowB.off HO5.out hg6 (by omega)); replace HW := hide (HW.out.grown hg6 HW.out.size (by intro k hk; simp at hk; omega)); clear hb6 hg6)
       | (refine wpList_cap_all _ rfl rfl rfl HB.out ?_)
       | (refine wpList_cap_putAll _ _ rfl rfl rfl HZ.out C1 l5 rfl HB.out.keyL HB.out.fpL HB.out.one ?_; intro w7 hb7 hg7 hs7; replace HZ := hide hb7; replace HO5 := hide (RowB.off HO5.out hg7 (by omega)); replace HW := hide (HW.out.grown hg7 HW.out.size (by intro k hk; simp at hk; omega)); clear hb7 hg7))
      refine bodyPost_ret (results_cap_err rfl _ _ (g + 1) _ _ rfl HZ.out _ rfl) rfl ?_
      exact ⟨l5, rfl, by rw [HCL.out]; exact HO5.out.reads, HW.out⟩
     case q2_4 =>
      rw [if_pos (by kernel_rfl)]
      refine wp_cap_keyD 14 rfl _ rfl rfl HB.out ?_
      rw [HKV.out]
      refine hK.out _ _ hHeld (fun hHeld => ?_)
      clear hK K
      try simp only [Act.put, s1_, s2_, s3_]
      refine wpAnyH_ready (rs := [1, 5]) (by kernel_rfl) (by simp) (AllReadyH.cons rfl (fun K hK => ?q7_1) (AllReadyH.cons rfl (fun K hK => ?q8_5) AllReadyH.nil))
      case q7_1 =>
       rw [if_pos (by kernel_rfl)]
       refine wp_cap_intD 11 rfl _ rfl 0 rfl HB.out _ rfl ?_
       refine hK.out _ _ hHeld (fun hHeld => ?_)
       clear hK K
       try simp only [Act.put, s1_, s2_, s3_]
       refine take_e 12 (i := 2) (v := .int .i64 (c.kind + 1)) rfl (by kernel_rfl) (Or.inl ⟨by kernel_rfl, fun w' hS => exec_i64_add _ _ _ rfl _ _ _ rfl rfl (IntWalk.i64_in _ (by omega))⟩) hHeld ?_
       try simp only [Act.put, s1_, s2_, s3_]
       refine take_e 16 (i := 6) (v := .pointer (some ⟨g, 0, none⟩)) rfl (by kernel_rfl) (Or.inl ⟨by kernel_rfl, fun w' hS => exec_field _ 0 0 rfl g rfl rfl⟩) hHeld ?_
       try simp only [Act.put, s1_, s2_, s3_]
       refine wpAnyH_ready (rs := [5]) (by kernel_rfl) (by simp) (AllReadyH.cons rfl (fun K hK => ?_) AllReadyH.nil)
       rw [if_pos (by kernel_rfl)]
       try go_simp
       refine (HSH.out _ ((HT.out.below hHeld (Nat.le_refl _)).more hHeld.size)).mono ?_
       rintro e wc ⟨rfl, hb⟩
       have HX := hide (hHeld.trans (hb.mono hHeld.size))
       replace HB := hide (HB.out.below hb HB.out.lt)
       replace HZ := hide (HZ.out.below hb HZ.out.lt)
       clear hb
       refine hK.out _ _ HX.out (fun hHeld => ?_)
       clear HX hK K
       try simp only [Act.put, s1_, s2_, s3_]
       refine wpAnyH_ready (rs := [7]) (by kernel_rfl) (by simp) (AllReadyH.cons rfl (fun K hK => ?_) AllReadyH.nil)
       rw [if_pos (by kernel_rfl)]
       refine wp_cap_putD rfl _ _ rfl 0 rfl HB.out (c.kind + 1) rfl { c with kind := c.kind + 1 } rfl ?_
       intro ws hb5 hg5 hs5
       replace HB := hide hb5
       replace HZ := hide (HZ.out.grown hg5 (by intro h; injection h with h; omega))
       have HX := hide (hHeld.grown hg5 hHeld.size (by intro k hk; simp at hk; omega))
       clear hb5 hg5 hs5
       refine hK.out _ _ HX.out (fun hHeld => ?_)
       clear HX hK K
       try simp only [Act.put, s1_, s2_, s3_]
       refine take_e 17 (i := 8) (v := .pointer (some ⟨g, 1, none⟩)) rfl (by kernel_rfl) (Or.inl ⟨by kernel_rfl, fun w' hS => exec_field _ 1 1 rfl g rfl rfl⟩) hHeld ?_
       try simp only [Act.put, s1_, s2_, s3_]
       refine wpAnyH_ready (rs := [9]) (by kernel_rfl) (by simp) (AllReadyH.cons rfl (fun K hK => ?_) AllReadyH.nil)
       rw [if_pos (by kernel_rfl)]
       refine wp_cap_putKeyD rfl _ _ rfl rfl HB.out KR HKR.out.symm HKL.out ?_
       intro ws hb5 hg5 hs5
       replace HB := hide hb5
       replace HZ := hide (HZ.out.grown hg5 (by intro h; injection h with h; omega))
       have HX := hide (hHeld.grown hg5 hHeld.size (by intro k hk; simp at hk; omega))
       clear hb5 hg5 hs5
       refine hK.out _ _ HX.out (fun hHeld => ?_)
       clear HX hK K
       try simp only [Act.put, s1_, s2_, s3_]
       refine wpAnyH_done (by kernel_rfl) ?_ _
       replace HW := hide hHeld
       clear hHeld
       replace HB := hide (show CapB _ g C1 lit by rw [← HC1E.out]; exact HB.out)
       go_wp2_with (first
        | (refine wpList_cap_lit _ rfl rfl rfl HB.out ?_)
        | (at_builtin; refine wpList_append_B rfl _ _ rfl (g + 2) (.slice none 0 0) [] rfl (RowB.nil_ _ _) w.heap.size lit c.lit rfl (HL.out.below HW.out (Nat.le_refl _)) HLB.out (by simp; omega) (by have := HZ.out.lt; omega) ?_; intro l5 w5 ho5 hg5; rw [List.nil_append] at ho5; have HO5 := hide ho5; have L5 := hide ho5.one; replace HB := hide (HB.out.grown hg5 (by simp [Value.ownBlock])); replace HZ := hide (HZ.out.grown hg5 (by simp [Value.ownBlock])); replace HW := hide (HW.out.grown hg5 HW.out.size (by intro k hk; simp [Value.ownBlock] at hk)); clear ho5 hg5)
        | (refine wpList_cap_putLit _ _ rfl rfl rfl HB.out l5 rfl L5.out c.lit ?_; intro w6 hb6 hg6 hs6; replace HB := hide (show CapB w6 g C1 l5 from (by rw [← HC1L.out]; exact hb6)); replace HZ := hide (HZ.out.grown hg6 (by intro h; injection h with h; omega)); replace HO5 := hide (RowB.off HO5.out hg6 (by omega)); replace HW := hide (HW.out.grown hg6 HW.out.size (by intro k hk; simp at hk; omega)); clear hb6 hg6)
        | (refine wpList_cap_all _ rfl rfl rfl HB.out ?_)
        | (refine wpList_cap_putAll _ _ rfl rfl rfl HZ.out C1 l5 rfl HB.out.keyL HB.out.fpL HB.out.one ?_; intro w7 hb7 hg7 hs7; replace HZ := hide hb7; replace HO5 := hide (RowB.off HO5.out hg7 (by omega)); replace HW := hide (HW.out.grown hg7 HW.out.size (by intro k hk; simp at hk; omega)); clear hb7 hg7))
       refine bodyPost_ret (results_cap_err rfl _ _ (g + 1) _ _ rfl HZ.out _ rfl) rfl ?_
       exact ⟨l5, rfl, by rw [HCL.out]; exact HO5.out.reads, HW.out⟩
      case q8_5 =>
       rw [if_pos (by kernel_rfl)]
       try go_simp
       refine (HSH.out _ ((HT.out.below hHeld (Nat.le_refl _)).more hHeld.size)).mono ?_
       rintro e wc ⟨rfl, hb⟩
       have HX := hide (hHeld.trans (hb.mono hHeld.size))
       replace HB := hide (HB.out.below hb HB.out.lt)
       replace HZ := hide (HZ.out.below hb HZ.out.lt)
       clear hb
       refine hK.out _ _ HX.out (fun hHeld => ?_)
       clear HX hK K
       try simp only [Act.put, s1_, s2_, s3_]
       refine wpAnyH_ready (rs := [1]) (by kernel_rfl) (by simp) (AllReadyH.cons rfl (fun K hK => ?_) AllReadyH.nil)
       rw [if_pos (by kernel_rfl)]
       refine wp_cap_intD 11 rfl _ rfl 0 rfl HB.out _ rfl ?_
       refine hK.out _ _ hHeld (fun hHeld => ?_)
       clear hK K
       try simp only [Act.put, s1_, s2_, s3_]
       refine take_e 12 (i := 2) (v := .int .i64 (c.kind + 1)) rfl (by kernel_rfl) (Or.inl ⟨by kernel_rfl, fun w' hS => exec_i64_add _ _ _ rfl _ _ _ rfl rfl (IntWalk.i64_in _ (by omega))⟩) hHeld ?_
       try simp only [Act.put, s1_, s2_, s3_]
       refine take_e 16 (i := 6) (v := .pointer (some ⟨g, 0, none⟩)) rfl (by kernel_rfl) (Or.inl ⟨by kernel_rfl, fun w' hS => exec_field _ 0 0 rfl g rfl rfl⟩) hHeld ?_
       try simp only [Act.put, s1_, s2_, s3_]
       refine wpAnyH_ready (rs := [7]) (by kernel_rfl) (by simp) (AllReadyH.cons rfl (fun K hK => ?_) AllReadyH.nil)
       rw [if_pos (by kernel_rfl)]
       refine wp_cap_putD rfl _ _ rfl 0 rfl HB.out (c.kind + 1) rfl { c with kind := c.kind + 1 } rfl ?_
       intro ws hb5 hg5 hs5
       replace HB := hide hb5
       replace HZ := hide (HZ.out.grown hg5 (by intro h; injection h with h; omega))
       have HX := hide (hHeld.grown hg5 hHeld.size (by intro k hk; simp at hk; omega))
       clear hb5 hg5 hs5
       refine hK.out _ _ HX.out (fun hHeld => ?_)
       clear HX hK K
       try simp only [Act.put, s1_, s2_, s3_]
       refine take_e 17 (i := 8) (v := .pointer (some ⟨g, 1, none⟩)) rfl (by kernel_rfl) (Or.inl ⟨by kernel_rfl, fun w' hS => exec_field _ 1 1 rfl g rfl rfl⟩) hHeld ?_
       try simp only [Act.put, s1_, s2_, s3_]
       refine wpAnyH_ready (rs := [9]) (by kernel_rfl) (by simp) (AllReadyH.cons rfl (fun K hK => ?_) AllReadyH.nil)
       rw [if_pos (by kernel_rfl)]
       refine wp_cap_putKeyD rfl _ _ rfl rfl HB.out KR HKR.out.symm HKL.out ?_
       intro ws hb5 hg5 hs5
       replace HB := hide hb5
       replace HZ := hide (HZ.out.grown hg5 (by intro h; injection h with h; omega))
       have HX := hide (hHeld.grown hg5 hHeld.size (by intro k hk; simp at hk; omega))
       clear hb5 hg5 hs5
       refine hK.out _ _ HX.out (fun hHeld => ?_)
       clear HX hK K
       try simp only [Act.put, s1_, s2_, s3_]
       refine wpAnyH_done (by kernel_rfl) ?_ _
       replace HW := hide hHeld
       clear hHeld
       replace HB := hide (show CapB _ g C1 lit by rw [← HC1E.out]; exact HB.out)
       go_wp2_with (first
        | (refine wpList_cap_lit _ rfl rfl rfl HB.out ?_)
        | (at_builtin; refine wpList_append_B rfl _ _ rfl (g + 2) (.slice none 0 0) [] rfl (RowB.nil_ _ _) w.heap.size lit c.lit rfl (HL.out.below HW.out (Nat.le_refl _)) HLB.out (by simp; omega) (by have := HZ.out.lt; omega) ?_; intro l5 w5 ho5 hg5; rw [List.nil_append] at ho5; have HO5 := hide ho5; have L5 := hide ho5.one; replace HB := hide (HB.out.grown hg5 (by simp [Value.ownBlock])); replace HZ := hide (HZ.out.grown hg5 (by simp [Value.ownBlock])); replace HW := hide (HW.out.grown hg5 HW.out.size (by intro k hk; simp [Value.ownBlock] at hk)); clear ho5 hg5)
        | (refine wpList_cap_putLit _ _ rfl rfl rfl HB.out l5 rfl L5.out c.lit ?_; intro w6 hb6 hg6 hs6; replace HB := hide (show CapB w6 g C1 l5 from (by rw [← HC1L.out]; exact hb6)); replace HZ := hide (HZ.out.grown hg6 (by intro h; injection h with h; omega)); replace HO5 := hide (RowB.off HO5.out hg6 (by omega)); replace HW := hide (HW.out.grown hg6 HW.out.size (by intro k hk; simp at hk; omega)); clear hb6 hg6)
        | (refine wpList_cap_all _ rfl rfl rfl HB.out ?_)
        | (refine wpList_cap_putAll _ _ rfl rfl rfl HZ.out C1 l5 rfl HB.out.keyL HB.out.fpL HB.out.one ?_; intro w7 hb7 hg7 hs7; replace HZ := hide hb7; replace HO5 := hide (RowB.off HO5.out hg7 (by omega)); replace HW := hide (HW.out.grown hg7 HW.out.size (by intro k hk; simp at hk; omega)); clear hb7 hg7))
       refine bodyPost_ret (results_cap_err rfl _ _ (g + 1) _ _ rfl HZ.out _ rfl) rfl ?_
       exact ⟨l5, rfl, by rw [HCL.out]; exact HO5.out.reads, HW.out⟩
   · have HWR := hide (fun w => by have := write_any c lit w hc; rw [Bool.not_eq_true _ |>.mp hw, HCV.out] at this; exact this)
     obtain ⟨C1, HC1⟩ : ∃ x, Hid (c = x) := ⟨_, hide rfl⟩
     have HC1E := hide (show roF c = C1 by rw [← HC1.out]; unfold roF; rw [if_pos hr, if_neg hw])
     have HC1L := hide (show { c with lit := c.lit } = C1 from HC1.out)
     have HCL := hide (show C1.lit = c.lit by rw [← HC1.out])
     rw [HC1E.out, HE.out]
     clear hr hw hc hwf hl ht
     rw [HCV.out]
     go_enter Tryd.func28, Tryd.ntmps28
     obtain ⟨g, hg⟩ : ∃ n, w.heap.size = n := ⟨_, rfl⟩
     go_wp2_with (first
      | (refine wpList_cap_new _ rfl HCV.out.symm rfl H1.out H2.out H3.out ?_; intro w1 hb1 hw1 hs1; rw [hg] at hb1 ⊢; have HB := hide hb1; have HW := hide hw1; clear hb1 hw1)
      | (refine wpList_cap_zero rfl rfl ?_; rw [HNN.out]; intro w2 hb2 hw2 hs2; have hg2 : w1.heap.size = g + 1 := (by omega); rw [hg2] at hb2; try rw [hg2]; have HZ := hide hb2; replace HB := hide (HB.out.below hw2 HB.out.lt); replace HW := hide (HW.out.trans (hw2.mono HW.out.size)); clear hb2 hw2)
      | (refine wpList_cap_all _ rfl rfl rfl HB.out ?_; rw [HCV.out]))
     refine (HRD.out _).mono ?_
     rintro e w3 ⟨rfl, hb3⟩
     replace HB := hide (HB.out.below hb3 HB.out.lt)
     replace HZ := hide (HZ.out.below hb3 HZ.out.lt)
     replace HW := hide (HW.out.trans (hb3.mono HW.out.size))
     clear hb3
     go_wp2_with (refine wpList_cap_all _ rfl rfl rfl HB.out ?_; rw [HCV.out])
     refine (HWR.out _).mono ?_
     rintro e w3 ⟨rfl, hb3⟩
     replace HB := hide (HB.out.below hb3 HB.out.lt)
     replace HZ := hide (HZ.out.below hb3 HZ.out.lt)
     replace HW := hide (HW.out.trans (hb3.mono HW.out.size))
     clear hb3
     go_wp2_with (first
      | (refine wpList_cap_lit _ rfl rfl rfl HB.out ?_)
      | (at_builtin; refine wpList_append_B rfl _ _ rfl (g + 2) (.slice none 0 0) [] rfl (RowB.nil_ _ _) w.heap.size lit c.lit rfl (HL.out.below HW.out (Nat.le_refl _)) HLB.out (by simp; omega) (by have := HZ.out.lt; omega) ?_; intro l5 w5 ho5 hg5; rw [List.nil_append] at ho5; have HO5 := hide ho5; have L5 := hide ho5.one; replace HB := hide (HB.out.grown hg5 (by simp [Value.ownBlock])); replace HZ := hide (HZ.out.grown hg5 (by simp [Value.ownBlock])); replace HW := hide (HW.out.grown hg5 HW.out.size (by intro k hk; simp [Value.ownBlock] at hk)); clear ho5 hg5)
      | (refine wpList_cap_putLit _ _ rfl rfl rfl HB.out l5 rfl L5.out c.lit ?_; intro w6 hb6 hg6 hs6; replace HB := hide (show CapB w6 g C1 l5 from (by rw [← HC1L.out]; exact hb6)); replace HZ := hide (HZ.out.grown hg6 (by intro h; injection h with h; omega)); replace HO5 := hide (RowB.off HO5.out hg6 (by omega)); replace HW := hide (HW.out.grown hg6 HW.out.size (by intro k hk; simp at hk; omega)); clear hb6 hg6)
      | (refine wpList_cap_all _ rfl rfl rfl HB.out ?_)
      | (refine wpList_cap_putAll _ _ rfl rfl rfl HZ.out C1 l5 rfl HB.out.keyL HB.out.fpL HB.out.one ?_; intro w7 hb7 hg7 hs7; replace HZ := hide hb7; replace HO5 := hide (RowB.off HO5.out hg7 (by omega)); replace HW := hide (HW.out.grown hg7 HW.out.size (by intro k hk; simp at hk; omega)); clear hb7 hg7))
     refine bodyPost_ret (results_cap_err rfl _ _ (g + 1) _ _ rfl HZ.out _ rfl) rfl ?_
     exact ⟨l5, rfl, by rw [HCL.out]; exact HO5.out.reads, HW.out⟩
 · have HRD := hide (fun w => by have := read_any c lit w hc; rw [Bool.not_eq_true _ |>.mp hr, HCV.out] at this; exact this)
   have HE := hide (show roE c = 11 by unfold roE; rw [if_neg hr])
   have HC1 := hide (show roF c = NN by rw [← HNN.out]; unfold roF; rw [if_neg hr])
   rw [HC1.out, HE.out]
   clear hr hc hwf hl ht
   rw [HCV.out]
   go_enter Tryd.func28, Tryd.ntmps28
   obtain ⟨g, hg⟩ : ∃ n, w.heap.size = n := ⟨_, rfl⟩
   go_wp2_with (first
    | (refine wpList_cap_new _ rfl HCV.out.symm rfl H1.out H2.out H3.out ?_; intro w1 hb1 hw1 hs1; rw [hg] at hb1 ⊢; have HB := hide hb1; have HW := hide hw1; clear hb1 hw1)
    | (refine wpList_cap_zero rfl rfl ?_; rw [HNN.out]; intro w2 hb2 hw2 hs2; have hg2 : w1.heap.size = g + 1 := (by omega); rw [hg2] at hb2; try rw [hg2]; have HZ := hide hb2; replace HB := hide (HB.out.below hw2 HB.out.lt); replace HW := hide (HW.out.trans (hw2.mono HW.out.size)); clear hb2 hw2)
    | (refine wpList_cap_all _ rfl rfl rfl HB.out ?_; rw [HCV.out]))
   refine (HRD.out _).mono ?_
   rintro e w3 ⟨rfl, hb3⟩
   replace HB := hide (HB.out.below hb3 HB.out.lt)
   replace HZ := hide (HZ.out.below hb3 HZ.out.lt)
   replace HW := hide (HW.out.trans (hb3.mono HW.out.size))
   clear hb3
   go_wp2_with (first
    | (refine wpList_none_cap rfl rfl ?_; rw [HNN.out])
    | (refine wpList_cap_putAll _ _ rfl rfl rfl HZ.out NN (.slice none 0 0) rfl HN1.out HN2.out rfl ?_; intro w6 hb6 hg6 hs6; replace HZ := hide hb6; replace HW := hide (HW.out.grown hg6 HW.out.size (by intro k hk; simp at hk; omega)); clear hb6 hg6))
   refine bodyPost_ret (results_cap_err rfl _ _ (g + 1) _ _ rfl HZ.out _ rfl) rfl ?_
   exact ⟨_, rfl, by rw [HNL.out]; exact Bs.nil_ _ _, HW.out⟩
end Go.Proofs.YthdjgebbjogmiaaDoor
