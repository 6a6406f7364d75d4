/-
CapsUnlike holds: unlike capabilities have unlike texts, like ones one. Conditions: none but the row's own.
-/
import Derived.Test.YtgjepahhbecljaaDoorWakes13
import Derived.Test.YtgjepahhbecljaaDoorCapReg
import Derived.Test.YtgjepahhbecljaaDoorSameCap
import Derived.Test.YtgjepahhbecljaaDoorTied
import Derived.LoopIn
import Derived.Deep.DeepCutAuto
namespace Go.Proofs.YtgjepahhbecljaaDoor.LawCapsUnlike
open Go Go.RowKit Go.ChangeShapes Go.WideShapes Go.ChangeAt
set_option linter.unusedVariables false
set_option maxRecDepth 100000

theorem print_iff {a b : CapD} (ha : a.Wf) (va : a.Valid) (hb : b.Wf) (vb : b.Valid) : (decide (printS a = printS b)) = sameF a b := by
  have h1 : printS a = strOfNums (printF a) := if_pos va
  have h2 : printS b = strOfNums (printF b) := if_pos vb
  rw [h1, h2, Bool.eq_iff_iff, decide_eq_true_eq, strOf_inj (printF_bytes va) (printF_bytes vb), sameF_iff]
  exact ⟨print_inj ha va hb vb, fun h => by rw [h]⟩

set_option maxHeartbeats 8000000 in
theorem walk (w : World) (ht : Tab w w.heap.size) (a : CapD) (la : Value) (hca : a.In) (hla : Bs w w.heap.size la a.lit) (b : CapD) (lb : Value) (hcb : b.In) (hlb : Bs w w.heap.size lb b.lit) (twin : Bool) :
    Calls Tryd.prog 4 #[capV a la, capV b lb, .bool twin] w fun e w' => e = .returned (.bool true) ∧ Below w.heap.size w w' := by
  have HRA := hide (fun (w' : World) (hw : Below w.heap.size w w') => right_any a la w' hca ((hla.below hw (Nat.le_refl _)).more hw.size))
  have HRB := hide (fun (w' : World) (hw : Below w.heap.size w w') => right_any b lb w' hcb ((hlb.below hw (Nat.le_refl _)).more hw.size))
  have HWA := hide (right_wf hca.toWf)
  have HWB := hide (right_wf hcb.toWf)
  have HVA := hide (right_valid a)
  have HVB := hide (right_valid b)
  have HSA := hide (right_lit a)
  have HSB := hide (right_lit b)
  have A1 := hide hca.keyL
  have A2 := hide hca.fpL
  have A3 := hide hla.one
  have B1 := hide hcb.keyL
  have B2 := hide hcb.fpL
  have B3 := hide hlb.one
  have HT := hide ht
  clear hca hla hcb hlb ht
  obtain ⟨VA, EVA⟩ : ∃ x, Hid (capV a la = x) := ⟨_, hide rfl⟩
  obtain ⟨VB, EVB⟩ : ∃ x, Hid (capV b lb = x) := ⟨_, hide rfl⟩
  rw [EVA.out] at HRA ⊢
  rw [EVB.out] at HRB ⊢
  obtain ⟨RA, ERA⟩ : ∃ x, Hid (rightF a = x) := ⟨_, hide rfl⟩
  obtain ⟨RB, ERB⟩ : ∃ x, Hid (rightF b = x) := ⟨_, hide rfl⟩
  rw [ERA.out] at HRA HWA HVA HSA
  rw [ERB.out] at HRB HWB HVB HSB
  go_enter Tryd.func4, Tryd.ntmps4
  go_upto_region 1 with (first
    | (refine wpList_cap_new _ rfl (EVA.out.symm) rfl A1.out A2.out A3.out ?_; intro w1 hb1 hw1 hs1; have BA := hide hb1; have HW := hide hw1; clear hb1 hw1)
    | (refine wpList_cap_new _ rfl (EVB.out.symm) rfl B1.out B2.out B3.out ?_; intro w2 hb2 hw2 hs2; rw [hs1] at hb2; have BB := hide hb2; replace BA := hide (BA.out.below hw2 BA.out.lt); replace HW := hide (HW.out.trans (hw2.mono (by omega))); clear hb2 hw2))
  go_cut [] from 11 to 14 (fun wx => ∃ l1 l2 : Value, CapB wx w.heap.size RA l1 ∧ CapB wx (w.heap.size + 1) RB l2 ∧ Own8 wx w.heap.size l1 RA.lit ∧ Own8 wx w.heap.size l2 RB.lit ∧ Below w.heap.size w wx)
  case first =>
    refine wp_region_held_drew (S := fun w' => Below w.heap.size w2 w') (by kernel_rfl) (Below.refl _ _).drew (fun hHeld => ?_)
    replace BA := hide BA.out.drew
    replace BB := hide BB.out.drew
    refine wpAnyH_ready (rs := [0, 2]) (by kernel_rfl) (by simp) (AllReadyH.cons rfl (fun K hK => ?a0) (AllReadyH.cons rfl (fun K hK => ?b0) AllReadyH.nil))
    case a0 =>
      rw [if_pos (by kernel_rfl)]
      refine wp_cap_allD 11 rfl _ rfl rfl BA.out ?_
      rw [EVA.out]
      refine hK.out _ _ hHeld (fun hHeld => ?_)
      clear hK K
      try simp only [Act.put, List.setIfInBounds_toArray, List.set_cons_zero, List.set_cons_succ]
      refine wpAnyH_ready (rs := [1, 2]) (by kernel_rfl) (by simp) (AllReadyH.cons rfl (fun K hK => ?a1) (AllReadyH.cons rfl (fun K hK => ?b1) AllReadyH.nil))
      case a1 =>
        rw [if_pos (by kernel_rfl)]
        try go_simp
        refine (HRA.out _ (HW.out.trans hHeld)).mono ?_
        rintro e wc1 ⟨l1, rfl, ho, hb⟩
        have HX := hide (hHeld.trans (hb.mono (HW.out.trans hHeld).size))
        replace BA := hide (BA.out.below hb BA.out.lt)
        replace BB := hide (BB.out.below hb BB.out.lt)
        have O1 := hide (Own8.more ho (show w.heap.size ≤ _ from (HW.out.trans hHeld).size))
        have L1 := hide (own_one ho l1 (by simp))
        clear ho
        refine hK.out _ _ HX.out (fun hHeld => ?_)
        clear HX hb
        clear hK K
        try simp only [Act.put, List.setIfInBounds_toArray, List.set_cons_zero, List.set_cons_succ]
        refine wpAnyH_ready (rs := [2]) (by kernel_rfl) (by simp) (AllReadyH.cons rfl (fun K hK => ?_) AllReadyH.nil)
        rw [if_pos (by kernel_rfl)]
        refine wp_cap_allD 13 rfl _ rfl rfl BB.out ?_
        rw [EVB.out]
        refine hK.out _ _ hHeld (fun hHeld => ?_)
        clear hK K
        try simp only [Act.put, List.setIfInBounds_toArray, List.set_cons_zero, List.set_cons_succ]
        refine wpAnyH_ready (rs := [3]) (by kernel_rfl) (by simp) (AllReadyH.cons rfl (fun K hK => ?_) AllReadyH.nil)
        rw [if_pos (by kernel_rfl)]
        try go_simp
        refine (HRB.out _ (HW.out.trans hHeld)).mono ?_
        rintro e wc2 ⟨l2, rfl, ho, hb⟩
        have HX := hide (hHeld.trans (hb.mono (HW.out.trans hHeld).size))
        replace BA := hide (BA.out.below hb BA.out.lt)
        replace BB := hide (BB.out.below hb BB.out.lt)
        have O2 := hide (Own8.more ho (show w.heap.size ≤ _ from (HW.out.trans hHeld).size))
        have L2 := hide (own_one ho l2 (by simp))
        replace O1 := hide (Own8.keptB O1.out hb)
        clear ho
        refine hK.out _ _ HX.out (fun hHeld => ?_)
        clear HX hb
        clear hK K
        try simp only [Act.put, List.setIfInBounds_toArray, List.set_cons_zero, List.set_cons_succ]
        refine wpAnyH_ready (rs := [4]) (by kernel_rfl) (by simp) (AllReadyH.cons rfl (fun K hK => ?_) AllReadyH.nil)
        rw [if_pos (by kernel_rfl)]
        refine wp_cap_putAllD rfl _ _ rfl rfl BA.out RA l1 rfl HWA.out.keyL HWA.out.fpL L1.out ?_
        intro ws1 hb hg hs
        replace O1 := hide (World.ownsRow.kept O1.out hg (.inr (by rintro h; exact own_ne_blk O1.out BA.out.blk (by decide) h.symm)))
        replace O2 := hide (World.ownsRow.kept O2.out hg (.inr (by rintro h; exact own_ne_blk O2.out BA.out.blk (by decide) h.symm)))
        replace BB := hide (BB.out.grown hg (by intro h; injection h with h; omega))
        replace BA := hide hb
        have HX := hide (hHeld.grown hg (by have := hHeld.size; omega) (by intro k hk; simp at hk; omega))
        clear hb hg
        refine hK.out _ _ HX.out (fun hHeld => ?_)
        clear HX
        clear hK K
        try simp only [Act.put, List.setIfInBounds_toArray, List.set_cons_zero, List.set_cons_succ]
        refine wpAnyH_ready (rs := [5]) (by kernel_rfl) (by simp) (AllReadyH.cons rfl (fun K hK => ?_) AllReadyH.nil)
        rw [if_pos (by kernel_rfl)]
        refine wp_cap_putAllD rfl _ _ rfl rfl BB.out RB l2 rfl HWB.out.keyL HWB.out.fpL L2.out ?_
        intro ws2 hb hg hs
        replace O1 := hide (World.ownsRow.kept O1.out hg (.inr (by rintro h; exact own_ne_blk O1.out BB.out.blk (by decide) h.symm)))
        replace O2 := hide (World.ownsRow.kept O2.out hg (.inr (by rintro h; exact own_ne_blk O2.out BB.out.blk (by decide) h.symm)))
        replace BA := hide (BA.out.grown hg (by intro h; injection h with h; omega))
        replace BB := hide hb
        have HX := hide (hHeld.grown hg (by have := hHeld.size; omega) (by intro k hk; simp at hk; omega))
        clear hb hg
        refine hK.out _ _ HX.out (fun hHeld => ?_)
        clear HX
        clear hK K
        try simp only [Act.put, List.setIfInBounds_toArray, List.set_cons_zero, List.set_cons_succ]
        refine wpAnyH_done (by kernel_rfl) ?_ _
        go_wp2_with fail
        go_meet
        exact ⟨l1, l2, BA.out, BB.out, O1.out, O2.out, HW.out.trans hHeld⟩
      case b1 =>
        rw [if_pos (by kernel_rfl)]
        refine wp_cap_allD 13 rfl _ rfl rfl BB.out ?_
        rw [EVB.out]
        refine hK.out _ _ hHeld (fun hHeld => ?_)
        clear hK K
        try simp only [Act.put, List.setIfInBounds_toArray, List.set_cons_zero, List.set_cons_succ]
        refine wpAnyH_ready (rs := [1]) (by kernel_rfl) (by simp) (AllReadyH.cons rfl (fun K hK => ?_) AllReadyH.nil)
        rw [if_pos (by kernel_rfl)]
        try go_simp
        refine (HRA.out _ (HW.out.trans hHeld)).mono ?_
        rintro e wc1 ⟨l1, rfl, ho, hb⟩
        have HX := hide (hHeld.trans (hb.mono (HW.out.trans hHeld).size))
        replace BA := hide (BA.out.below hb BA.out.lt)
        replace BB := hide (BB.out.below hb BB.out.lt)
        have O1 := hide (Own8.more ho (show w.heap.size ≤ _ from (HW.out.trans hHeld).size))
        have L1 := hide (own_one ho l1 (by simp))
        clear ho
        refine hK.out _ _ HX.out (fun hHeld => ?_)
        clear HX hb
        clear hK K
        try simp only [Act.put, List.setIfInBounds_toArray, List.set_cons_zero, List.set_cons_succ]
        refine wpAnyH_ready (rs := [3]) (by kernel_rfl) (by simp) (AllReadyH.cons rfl (fun K hK => ?_) AllReadyH.nil)
        rw [if_pos (by kernel_rfl)]
        try go_simp
        refine (HRB.out _ (HW.out.trans hHeld)).mono ?_
        rintro e wc2 ⟨l2, rfl, ho, hb⟩
        have HX := hide (hHeld.trans (hb.mono (HW.out.trans hHeld).size))
        replace BA := hide (BA.out.below hb BA.out.lt)
        replace BB := hide (BB.out.below hb BB.out.lt)
        have O2 := hide (Own8.more ho (show w.heap.size ≤ _ from (HW.out.trans hHeld).size))
        have L2 := hide (own_one ho l2 (by simp))
        replace O1 := hide (Own8.keptB O1.out hb)
        clear ho
        refine hK.out _ _ HX.out (fun hHeld => ?_)
        clear HX hb
        clear hK K
        try simp only [Act.put, List.setIfInBounds_toArray, List.set_cons_zero, List.set_cons_succ]
        refine wpAnyH_ready (rs := [4]) (by kernel_rfl) (by simp) (AllReadyH.cons rfl (fun K hK => ?_) AllReadyH.nil)
        rw [if_pos (by kernel_rfl)]
        refine wp_cap_putAllD rfl _ _ rfl rfl BA.out RA l1 rfl HWA.out.keyL HWA.out.fpL L1.out ?_
        intro ws1 hb hg hs
        replace O1 := hide (World.ownsRow.kept O1.out hg (.inr (by rintro h; exact own_ne_blk O1.out BA.out.blk (by decide) h.symm)))
        replace O2 := hide (World.ownsRow.kept O2.out hg (.inr (by rintro h; exact own_ne_blk O2.out BA.out.blk (by decide) h.symm)))
        replace BB := hide (BB.out.grown hg (by intro h; injection h with h; omega))
        replace BA := hide hb
        have HX := hide (hHeld.grown hg (by have := hHeld.size; omega) (by intro k hk; simp at hk; omega))
        clear hb hg
        refine hK.out _ _ HX.out (fun hHeld => ?_)
        clear HX
        clear hK K
        try simp only [Act.put, List.setIfInBounds_toArray, List.set_cons_zero, List.set_cons_succ]
        refine wpAnyH_ready (rs := [5]) (by kernel_rfl) (by simp) (AllReadyH.cons rfl (fun K hK => ?_) AllReadyH.nil)
        rw [if_pos (by kernel_rfl)]
        refine wp_cap_putAllD rfl _ _ rfl rfl BB.out RB l2 rfl HWB.out.keyL HWB.out.fpL L2.out ?_
        intro ws2 hb hg hs
        replace O1 := hide (World.ownsRow.kept O1.out hg (.inr (by rintro h; exact own_ne_blk O1.out BB.out.blk (by decide) h.symm)))
        replace O2 := hide (World.ownsRow.kept O2.out hg (.inr (by rintro h; exact own_ne_blk O2.out BB.out.blk (by decide) h.symm)))
        replace BA := hide (BA.out.grown hg (by intro h; injection h with h; omega))
        replace BB := hide hb
        have HX := hide (hHeld.grown hg (by have := hHeld.size; omega) (by intro k hk; simp at hk; omega))
        clear hb hg
        refine hK.out _ _ HX.out (fun hHeld => ?_)
        clear HX
        clear hK K
        try simp only [Act.put, List.setIfInBounds_toArray, List.set_cons_zero, List.set_cons_succ]
        refine wpAnyH_done (by kernel_rfl) ?_ _
        go_wp2_with fail
        go_meet
        exact ⟨l1, l2, BA.out, BB.out, O1.out, O2.out, HW.out.trans hHeld⟩
    case b0 =>
      rw [if_pos (by kernel_rfl)]
      refine wp_cap_allD 13 rfl _ rfl rfl BB.out ?_
      rw [EVB.out]
      refine hK.out _ _ hHeld (fun hHeld => ?_)
      clear hK K
      try simp only [Act.put, List.setIfInBounds_toArray, List.set_cons_zero, List.set_cons_succ]
      refine wpAnyH_ready (rs := [0]) (by kernel_rfl) (by simp) (AllReadyH.cons rfl (fun K hK => ?_) AllReadyH.nil)
      rw [if_pos (by kernel_rfl)]
      refine wp_cap_allD 11 rfl _ rfl rfl BA.out ?_
      rw [EVA.out]
      refine hK.out _ _ hHeld (fun hHeld => ?_)
      clear hK K
      try simp only [Act.put, List.setIfInBounds_toArray, List.set_cons_zero, List.set_cons_succ]
      refine wpAnyH_ready (rs := [1]) (by kernel_rfl) (by simp) (AllReadyH.cons rfl (fun K hK => ?_) AllReadyH.nil)
      rw [if_pos (by kernel_rfl)]
      try go_simp
      refine (HRA.out _ (HW.out.trans hHeld)).mono ?_
      rintro e wc1 ⟨l1, rfl, ho, hb⟩
      have HX := hide (hHeld.trans (hb.mono (HW.out.trans hHeld).size))
      replace BA := hide (BA.out.below hb BA.out.lt)
      replace BB := hide (BB.out.below hb BB.out.lt)
      have O1 := hide (Own8.more ho (show w.heap.size ≤ _ from (HW.out.trans hHeld).size))
      have L1 := hide (own_one ho l1 (by simp))
      clear ho
      refine hK.out _ _ HX.out (fun hHeld => ?_)
      clear HX hb
      clear hK K
      try simp only [Act.put, List.setIfInBounds_toArray, List.set_cons_zero, List.set_cons_succ]
      refine wpAnyH_ready (rs := [3]) (by kernel_rfl) (by simp) (AllReadyH.cons rfl (fun K hK => ?_) AllReadyH.nil)
      rw [if_pos (by kernel_rfl)]
      try go_simp
      refine (HRB.out _ (HW.out.trans hHeld)).mono ?_
      rintro e wc2 ⟨l2, rfl, ho, hb⟩
      have HX := hide (hHeld.trans (hb.mono (HW.out.trans hHeld).size))
      replace BA := hide (BA.out.below hb BA.out.lt)
      replace BB := hide (BB.out.below hb BB.out.lt)
      have O2 := hide (Own8.more ho (show w.heap.size ≤ _ from (HW.out.trans hHeld).size))
      have L2 := hide (own_one ho l2 (by simp))
      replace O1 := hide (Own8.keptB O1.out hb)
      clear ho
      refine hK.out _ _ HX.out (fun hHeld => ?_)
      clear HX hb
      clear hK K
      try simp only [Act.put, List.setIfInBounds_toArray, List.set_cons_zero, List.set_cons_succ]
      refine wpAnyH_ready (rs := [4]) (by kernel_rfl) (by simp) (AllReadyH.cons rfl (fun K hK => ?_) AllReadyH.nil)
      rw [if_pos (by kernel_rfl)]
      refine wp_cap_putAllD rfl _ _ rfl rfl BA.out RA l1 rfl HWA.out.keyL HWA.out.fpL L1.out ?_
      intro ws1 hb hg hs
      replace O1 := hide (World.ownsRow.kept O1.out hg (.inr (by rintro h; exact own_ne_blk O1.out BA.out.blk (by decide) h.symm)))
      replace O2 := hide (World.ownsRow.kept O2.out hg (.inr (by rintro h; exact own_ne_blk O2.out BA.out.blk (by decide) h.symm)))
      replace BB := hide (BB.out.grown hg (by intro h; injection h with h; omega))
      replace BA := hide hb
      have HX := hide (hHeld.grown hg (by have := hHeld.size; omega) (by intro k hk; simp at hk; omega))
      clear hb hg
      refine hK.out _ _ HX.out (fun hHeld => ?_)
      clear HX
      clear hK K
      try simp only [Act.put, List.setIfInBounds_toArray, List.set_cons_zero, List.set_cons_succ]
      refine wpAnyH_ready (rs := [5]) (by kernel_rfl) (by simp) (AllReadyH.cons rfl (fun K hK => ?_) AllReadyH.nil)
      rw [if_pos (by kernel_rfl)]
      refine wp_cap_putAllD rfl _ _ rfl rfl BB.out RB l2 rfl HWB.out.keyL HWB.out.fpL L2.out ?_
      intro ws2 hb hg hs
      replace O1 := hide (World.ownsRow.kept O1.out hg (.inr (by rintro h; exact own_ne_blk O1.out BB.out.blk (by decide) h.symm)))
      replace O2 := hide (World.ownsRow.kept O2.out hg (.inr (by rintro h; exact own_ne_blk O2.out BB.out.blk (by decide) h.symm)))
      replace BA := hide (BA.out.grown hg (by intro h; injection h with h; omega))
      replace BB := hide hb
      have HX := hide (hHeld.grown hg (by have := hHeld.size; omega) (by intro k hk; simp at hk; omega))
      clear hb hg
      refine hK.out _ _ HX.out (fun hHeld => ?_)
      clear HX
      clear hK K
      try simp only [Act.put, List.setIfInBounds_toArray, List.set_cons_zero, List.set_cons_succ]
      refine wpAnyH_done (by kernel_rfl) ?_ _
      go_wp2_with fail
      go_meet
      exact ⟨l1, l2, BA.out, BB.out, O1.out, O2.out, HW.out.trans hHeld⟩
  case rest =>
    obtain ⟨l1, l2, hBA, hBB, hO1, hO2, hW⟩ := hcut
    replace BA := hide hBA
    replace BB := hide hBB
    have O1 := hide hO1
    have O2 := hide hO2
    have L1 := hide (own_one hO1 l1 (by simp))
    have L2 := hide (own_one hO2 l2 (by simp))
    replace HW := hide hW
    clear hBA hBB hO1 hO2 hW HRA HRB
    cases twin
    case false =>
      have HPA := hide (fun (w' : World) (h : Bs w' w'.heap.size l1 RA.lit) (ht : Tab w' w'.heap.size) => Print_any RA l1 w' { toWf := HWA.out, row := h, small := by have := HSA.out; omega } ht)
      have HPB := hide (fun (w' : World) (h : Bs w' w'.heap.size l2 RB.lit) (ht : Tab w' w'.heap.size) => Print_any RB l2 w' { toWf := HWB.out, row := h, small := by have := HSB.out; omega } ht)
      have HSC := hide (fun (w' : World) (h1 : Bs w' w'.heap.size l1 RA.lit) (h2 : Bs w' w'.heap.size l2 RB.lit) => same_caps RA RB l1 l2 w' HWA.out.keyL HWA.out.fpL HWB.out.keyL HWB.out.fpL h1 h2 HWA.out.litB HWB.out.litB)
      rw [show printE RA = 0 from if_pos HVA.out] at HPA
      rw [show printE RB = 0 from if_pos HVB.out] at HPB
      have HIF := hide (print_iff HWA.out HVA.out HWB.out HVB.out)
      obtain ⟨PA, EPA⟩ : ∃ x, Hid (printS RA = x) := ⟨_, hide rfl⟩
      rw [EPA.out] at HPA HIF
      obtain ⟨PB, EPB⟩ : ∃ x, Hid (printS RB = x) := ⟨_, hide rfl⟩
      rw [EPB.out] at HPB HIF
      obtain ⟨q, EQ⟩ : ∃ x, Hid (sameF RA RB = x) := ⟨_, hide rfl⟩
      rw [EQ.out] at HSC HIF
      have eq1 : (PA.toList == PB.toList) = q := by
        rw [← HIF.out]
        by_cases h : PA = PB
        · rw [decide_eq_true h, h]; simp
        · rw [decide_eq_false h, str_ne h]
      obtain ⟨V1, EV1⟩ : ∃ x, Hid (capV RA l1 = x) := ⟨_, hide rfl⟩
      rw [EV1.out] at HPA HSC
      obtain ⟨V2, EV2⟩ : ∃ x, Hid (capV RB l2 = x) := ⟨_, hide rfl⟩
      rw [EV2.out] at HPB HSC
      replace HT := hide ((HT.out.below HW.out (Nat.le_refl _)).more HW.out.size)
      go_upto_region 5 with (first
        | (refine wpList_cap_all _ rfl rfl rfl BA.out ?_; rw [EV1.out])
        | (go_at_call 16; refine (HPA.out wc (Rd.of_own O1.out) HT.out).mono ?_; rintro e w6 ⟨rfl, hb6⟩; have hs6 := hb6.size; replace BA := hide (BA.out.below hb6 BA.out.lt); replace BB := hide (BB.out.below hb6 BB.out.lt); replace O1 := hide (Own8.keptB O1.out hb6); replace O2 := hide (Own8.keptB O2.out hb6); replace HW := hide (HW.out.trans (hb6.mono HW.out.size)); replace HT := hide ((HT.out.below hb6 (Nat.le_refl _)).more hs6); clear hb6))
      go_upto_region 6 with (first
        | (refine wpList_cap_all _ rfl rfl rfl BB.out ?_; rw [EV2.out])
        | (go_at_call 16; refine (HPB.out w6 (Rd.of_own O2.out) HT.out).mono ?_; rintro e w7 ⟨rfl, hb7⟩; have hs7 := hb7.size; replace BA := hide (BA.out.below hb7 BA.out.lt); replace BB := hide (BB.out.below hb7 BB.out.lt); replace O1 := hide (Own8.keptB O1.out hb7); replace O2 := hide (Own8.keptB O2.out hb7); replace HW := hide (HW.out.trans (hb7.mono HW.out.size)); replace HT := hide ((HT.out.below hb7 (Nat.le_refl _)).more hs7); clear hb7))
      go_wp2_with (first
        | go_skip
        | (refine wpList_cap_all _ rfl rfl rfl BA.out ?_; rw [EV1.out])
        | (refine wpList_cap_all _ rfl rfl rfl BB.out ?_; rw [EV2.out])
        | (go_at_call 19; refine (HSC.out w7 (Rd.of_own O1.out) (Rd.of_own O2.out)).mono ?_; rintro e w8 ⟨rfl, hb8⟩; have hs8 := hb8.size; replace HW := hide (HW.out.trans (hb8.mono HW.out.size)); replace HT := hide ((HT.out.below hb8 (Nat.le_refl _)).more hs8); clear hb8)
        | (go_at_call 18; refine (wakes13 w8 HT.out).mono ?_; rintro e w9 ⟨rfl, hb9⟩; replace HW := hide (HW.out.trans (hb9.mono HW.out.size)); clear hb9))
      all_goals go_ret
      all_goals exact ⟨by first | rfl | simp, HW.out⟩
    case true =>
      go_upto_region 4 with (first
        | (refine wpList_cap_all _ rfl rfl rfl BA.out ?_)
        | (refine wpList_cap_putAll _ _ rfl rfl rfl BB.out RA l1 rfl HWA.out.keyL HWA.out.fpL L1.out ?_; intro w4 hb4 hg4 hs4; replace O1 := hide (World.ownsRow.kept O1.out hg4 (.inr (by rintro h; exact own_ne_blk O1.out BB.out.blk (by decide) h.symm))); replace BA := hide (BA.out.grown hg4 (by intro h; injection h with h; omega)); replace BB := hide hb4; replace HW := hide (HW.out.grown hg4 HW.out.size (by intro k hk; simp at hk; omega)); clear hb4 hg4))
      have O2 := O1
      have HPA := hide (fun (w' : World) (h : Bs w' w'.heap.size l1 RA.lit) (ht : Tab w' w'.heap.size) => Print_any RA l1 w' { toWf := HWA.out, row := h, small := by have := HSA.out; omega } ht)
      have HPB := hide (fun (w' : World) (h : Bs w' w'.heap.size l1 RA.lit) (ht : Tab w' w'.heap.size) => Print_any RA l1 w' { toWf := HWA.out, row := h, small := by have := HSA.out; omega } ht)
      have HSC := hide (fun (w' : World) (h1 : Bs w' w'.heap.size l1 RA.lit) (h2 : Bs w' w'.heap.size l1 RA.lit) => same_caps RA RA l1 l1 w' HWA.out.keyL HWA.out.fpL HWA.out.keyL HWA.out.fpL h1 h2 HWA.out.litB HWA.out.litB)
      rw [show printE RA = 0 from if_pos HVA.out] at HPA
      rw [show printE RA = 0 from if_pos HVA.out] at HPB
      have HIF := hide (print_iff HWA.out HVA.out HWA.out HVA.out)
      obtain ⟨PA, EPA⟩ : ∃ x, Hid (printS RA = x) := ⟨_, hide rfl⟩
      rw [EPA.out] at HPA HIF
      rw [EPA.out] at HPB
      obtain ⟨q, EQ⟩ : ∃ x, Hid (sameF RA RA = x) := ⟨_, hide rfl⟩
      rw [EQ.out] at HSC
      obtain rfl : q = true := by rw [← EQ.out]; exact sameF_self RA
      obtain ⟨V1, EV1⟩ : ∃ x, Hid (capV RA l1 = x) := ⟨_, hide rfl⟩
      rw [EV1.out] at HPA HSC
      rw [EV1.out] at HPB
      replace HT := hide ((HT.out.below HW.out (Nat.le_refl _)).more HW.out.size)
      go_upto_region 5 with (first
        | (refine wpList_cap_all _ rfl rfl rfl BA.out ?_; rw [EV1.out])
        | (go_at_call 16; refine (HPA.out w4 (Rd.of_own O1.out) HT.out).mono ?_; rintro e w6 ⟨rfl, hb6⟩; have hs6 := hb6.size; replace BA := hide (BA.out.below hb6 BA.out.lt); replace BB := hide (BB.out.below hb6 BB.out.lt); replace O1 := hide (Own8.keptB O1.out hb6); replace O2 := hide (Own8.keptB O2.out hb6); replace HW := hide (HW.out.trans (hb6.mono HW.out.size)); replace HT := hide ((HT.out.below hb6 (Nat.le_refl _)).more hs6); clear hb6))
      go_upto_region 6 with (first
        | (refine wpList_cap_all _ rfl rfl rfl BB.out ?_; rw [EV1.out])
        | (go_at_call 16; refine (HPB.out w6 (Rd.of_own O2.out) HT.out).mono ?_; rintro e w7 ⟨rfl, hb7⟩; have hs7 := hb7.size; replace BA := hide (BA.out.below hb7 BA.out.lt); replace BB := hide (BB.out.below hb7 BB.out.lt); replace O1 := hide (Own8.keptB O1.out hb7); replace O2 := hide (Own8.keptB O2.out hb7); replace HW := hide (HW.out.trans (hb7.mono HW.out.size)); replace HT := hide ((HT.out.below hb7 (Nat.le_refl _)).more hs7); clear hb7))
      go_wp2_with (first
        | go_skip
        | (refine wpList_cap_all _ rfl rfl rfl BA.out ?_; rw [EV1.out])
        | (refine wpList_cap_all _ rfl rfl rfl BB.out ?_; rw [EV1.out])
        | (go_at_call 19; refine (HSC.out w7 (Rd.of_own O1.out) (Rd.of_own O2.out)).mono ?_; rintro e w8 ⟨rfl, hb8⟩; have hs8 := hb8.size; replace HW := hide (HW.out.trans (hb8.mono HW.out.size)); replace HT := hide ((HT.out.below hb8 (Nat.le_refl _)).more hs8); clear hb8)
        | (go_at_call 18; refine (wakes13 w8 HT.out).mono ?_; rintro e w9 ⟨rfl, hb9⟩; replace HW := hide (HW.out.trans (hb9.mono HW.out.size)); clear hb9))
      all_goals go_ret
      all_goals exact ⟨by first | rfl | simp, HW.out⟩
set_option maxRecDepth 100000 in
theorem lifted (os : Os) (started : os.Started) (H : Type) (enc : TypeId × Value → H) :
    ReturnsInHanded {} Tryd.checked os 4 .any (fun w args => (Rows.capsUnlikeSpec.pre enc Tryd.prog Tryd.f4 [] false w args ∧ laidMetH Tryd.prog laidD w) ∧ sizedMet enc Tryd.prog Tryd.f4 (OpenSpec.ofChange Rows.capsUnlikeSpec) false w args)
      (Rows.capsUnlikeSpec.post enc Tryd.prog Tryd.f4 false true false false) := by
  refine returnsInHanded_of_change_and (C := Tryd.checked) (X := fun w _ => laidMetH Tryd.prog laidD w) (fun _ _ _ hh h => h.of_heap hh) own started (by kernel_rfl) Tryd.func4
    (ChangeSpec.witness_shaped (enc := enc) (C := Tryd.checked) (os := os) (X := fun w _ => laidMetH Tryd.prog laidD w) false (World.doorLaid Tryd.prog doorSteps os) #[capV CapD.none_ (.slice none 0 0), capV CapD.none_ (.slice none 0 0), .bool false] 8 rfl (World.shaped_of_RefB (by kernel_rfl) (by kernel_rfl)) (by kernel_rfl) (by kernel_rfl) (by kernel_rfl) (door_met os _)) ?_
  intro W base args ds gs before hval0 hW _ _ hL _
  have hT := tab_of hL
  have hval : ∀ (j : Nat) t v, Tryd.f4.params[j]? = some t → args[j]? = some v → Value.okWide Tryd.prog W .any base t v := hval0
  have hW' := hW
  obtain ⟨p, q, hA0, hV, rfl, hfz, hnd⟩ := hW
  have hA : DataW.TrodAll enc Tryd.prog W 0 (fun _ => true) true Tryd.f4.params.toList args.toList ds p := hA0
  rw [Tryd.params4] at hA hval
  obtain ⟨v0, vs0, d0, ds0, p0, q0, hargs, rfl, rfl, h0, r0⟩ := trodAll_cons hA
  obtain ⟨v1, vs1, d1, ds1, p1, q1, rfl, rfl, rfl, h1, r1⟩ := trodAll_cons r0
  obtain ⟨v2, vs2, d2, ds2, p2, q2, rfl, rfl, rfl, h2, r2⟩ := trodAll_cons r1
  obtain ⟨rfl, rfl, rfl⟩ := trodAll_nil r2
  obtain rfl : args = #[v0, v1, v2] := by cases args; simp_all
  obtain ⟨rfl, rfl⟩ := trodVars_none hV
  have k0 := h0
  have lt0 : ∀ x ∈ p0, x.block < W.heap.size := by obtain ⟨m, hm⟩ := k0; exact DataW.trod_lt m _ _ _ hm
  obtain ⟨z0, l0, rfl, w0, b0⟩ := read_cap (hval 0 28 v0 rfl rfl) h0
  have k1 := h1
  have lt1 : ∀ x ∈ p1, x.block < W.heap.size := by obtain ⟨m, hm⟩ := k1; exact DataW.trod_lt m _ _ _ hm
  obtain ⟨z1, l1, rfl, w1, b1⟩ := read_cap (hval 1 28 v1 rfl rfl) h1
  obtain ⟨a2, rfl, rfl, rfl⟩ := open_bool Tryd.underlying4 (hval 2 4 v2 rfl rfl) h2
  clear hA0 hval0
  refine (walk W hT z0 l0 w0 b0 z1 l1 w1 b1 a2).mono fun e W' ⟨he, bel⟩ => ?_
  subst he
  exact ⟨_, rfl, _, _, _, [], _, [], hW', trodAll_mk1 (shut_bool Tryd.underlying4 _), (trodAll_cons_mk (Below.trod laidOut (by kernel_rfl) (of_decide_eq_true (by kernel_rfl)) k0 bel lt0) (trodAll_cons_mk (Below.trod laidOut (by kernel_rfl) (of_decide_eq_true (by kernel_rfl)) k1 bel lt1) (trodAll_cons_mk (shut_bool Tryd.underlying4 _) trodAll_mk0))), rfl, bel.frame _, fun h => by cases h⟩

theorem over : Rows.capsUnlikeRow.holds Tryd.pinned (OpenSpec.ofChange Rows.capsUnlikeSpec) :=
  OpenClaim.holds_of_wide 4 Tryd.f4 rfl rfl rfl rfl rfl rfl rfl ⟨rfl, rfl, rfl, rfl, rfl⟩ rfl rfl rfl rfl rfl (by kernel_rfl) Tryd.func4 (by kernel_rfl)
    (of_decide_eq_true (by kernel_rfl)) (by unfold Func.isWrapper; rw [if_neg (of_decide_eq_false (by kernel_rfl))]; exact ⟨rfl, rfl⟩)
    (fun os started H enc _ => lifted os started H enc)

theorem proved : Rows.CapsUnlikeCardSaid :=
  Claim7.holds_tied_plain_at .later [] Rows.capsUnlikeCard.laidKinds true Rows.capsUnlikeCard.stood.harness Rows.capsUnlikeCard.stood.looks
    over (fun _ h => by cases h) (by kernel_rfl) (fun _ h => by cases h) capsUnlike_row_tie rfl ⟨rfl, rfl⟩ (by kernel_rfl) rfl
    (fun f fn hf hfn => by
      obtain rfl : f = 4 := Option.some.inj ((show Tryd.prog.funcNamed "aumbry/aumbrylaw13.CapsUnlike" = some 4 by kernel_rfl).symm.trans hf) |>.symm
      obtain rfl : fn = Tryd.f4 := (Option.some.inj (Tryd.func4.symm.trans hfn)).symm
      exact ⟨by kernel_rfl, fun j t ht => by
        have ht' : Tryd.f4.params[j]? = some t := ht
        rw [Tryd.params4] at ht'
        have hm : t ∈ [28, 28, 4] := by simpa using Array.mem_of_getElem? ht'
        have hall : ([28, 28, 4].all fun u => !Tryd.prog.wantsStandIn u) = true := by kernel_rfl
        exact (show Tryd.prog.wantsStandIn t = false by simpa using List.all_eq_true.1 hall t hm)⟩)
    (by kernel_rfl)
end Go.Proofs.YtgjepahhbecljaaDoor.LawCapsUnlike
