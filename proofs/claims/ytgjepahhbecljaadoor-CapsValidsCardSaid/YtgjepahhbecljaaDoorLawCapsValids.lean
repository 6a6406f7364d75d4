/-
CapsValids holds: which capabilities may be, which may read, write, what is one. Conditions: none but the row's own.
-/
import Derived.Test.YtgjepahhbecljaaDoorWakes13
import Derived.Test.YtgjepahhbecljaaDoorCapReg
import Derived.Test.YtgjepahhbecljaaDoorSameCap
import Derived.Test.YtgjepahhbecljaaDoorCapRead
import Derived.Test.YtgjepahhbecljaaDoorTied
import Derived.LoopIn
import Derived.Deep.DeepCutAuto
namespace Go.Proofs.YtgjepahhbecljaaDoor.LawCapsValids
open Go Go.RowKit Go.ChangeShapes Go.WideShapes Go.ChangeAt
set_option linter.unusedVariables false
set_option maxRecDepth 100000

theorem cut_in {c : CapD} (h : c.In) : (cutF c).In := { h with litB := fun x hx => h.litB x (List.mem_of_mem_take hx) }

theorem exec_cap_all {o : Oper} {a : Act} {w : World} {g : Nat} {c : CapD} {lit V : Value} (x : Operand) (ho : o.op = .load 28 x) (hx : a.eval x = .pointer (some ⟨g, 0, none⟩)) (hB : CapB w g c lit) (hV : capV c lit = V) : (execOp a.eval o).run Tryd.prog w = .ok (.value V) w := by
  subst hV
  unfold execOp
  simp only [ho, hx, Instr.loadAt, Instr.sureAddr, Sem.run_bind, Sem.run_pure, Result.andThen_ok, run_loadVar_mid w g 0 _ _ _ (blk_range hB.blk 0 _ (fun j u hu => by rw [Nat.zero_add]; exact hu)) Tryd.underlying28 rfl (by rw [cc_len lit hB.keyL hB.fpL]; exact size_cap)]
  rfl
set_option maxHeartbeats 16000000 in
theorem walk (w : World) (ht : Tab w w.heap.size) (a : CapD) (la : Value) (hca : a.In) (hla : Bs w w.heap.size la a.lit) (b : CapD) (lb : Value) (hcb : b.In) (hlb : Bs w w.heap.size lb b.lit) (twin : Bool) :
    Calls Tryd.prog 5 #[capV a la, capV b lb, .bool twin] w fun e w' => e = .returned (.bool true) ∧ Below w.heap.size w w' := by
  have HRA := hide (fun (w' : World) (hw : Below w.heap.size w w') => cutc_any a la w' hca.keyL hca.fpL w.heap.size hw.size (hla.below hw (Nat.le_refl _)))
  have HRB := hide (fun (w' : World) (hw : Below w.heap.size w w') => cutc_any b lb w' hcb.keyL hcb.fpL w.heap.size hw.size (hlb.below hw (Nat.le_refl _)))
  have HIA := hide (cut_in hca)
  have HIB := hide (cut_in hcb)
  have HSA := hide (cutF_len a)
  have HSB := hide (cutF_len b)
  have A1 := hide hca.keyL
  have A2 := hide hca.fpL
  have A3 := hide hla.one
  have B1 := hide hcb.keyL
  have B2 := hide hcb.fpL
  have B3 := hide hlb.one
  have HT := hide ht
  clear hca hla hcb hlb ht
  obtain ⟨VA, EVA⟩ : ∃ x, Hid (capV a la = x) := ⟨_, hide rfl⟩
  obtain ⟨VB, EVB⟩ : ∃ x, Hid (capV b lb = x) := ⟨_, hide rfl⟩
  rw [EVA.out] at HRA ⊢
  rw [EVB.out] at HRB ⊢
  obtain ⟨RA, ERA⟩ : ∃ x, Hid (cutF a = x) := ⟨_, hide rfl⟩
  obtain ⟨RB, ERB⟩ : ∃ x, Hid (cutF b = x) := ⟨_, hide rfl⟩
  rw [show a.lit.take 80 = RA.lit from by rw [← ERA.out]; rfl, ERA.out] at HRA
  rw [show b.lit.take 80 = RB.lit from by rw [← ERB.out]; rfl, ERB.out] at HRB
  rw [ERA.out] at HIA HSA
  rw [ERB.out] at HIB HSB
  go_enter Tryd.func5, Tryd.ntmps5
  go_upto_region 1 with (first
    | (refine wpList_cap_new _ rfl (EVA.out.symm) rfl A1.out A2.out A3.out ?_; intro w1 hb1 hw1 hs1; have BA := hide hb1; have HW := hide hw1; clear hb1 hw1)
    | (refine wpList_cap_new _ rfl (EVB.out.symm) rfl B1.out B2.out B3.out ?_; intro w2 hb2 hw2 hs2; rw [hs1] at hb2; have BB := hide hb2; replace BA := hide (BA.out.below hw2 BA.out.lt); replace HW := hide (HW.out.trans (hw2.mono (by omega))); clear hb2 hw2))
  go_cut [] from 7 to 10 (fun wx => ∃ l1 l2 : Value, CapB wx w.heap.size RA l1 ∧ CapB wx (w.heap.size + 1) RB l2 ∧ Bs wx w.heap.size l1 RA.lit ∧ Bs wx w.heap.size l2 RB.lit ∧ Below w.heap.size w wx)
  case first =>
    refine wp_region_held_drew (S := fun w' => Below w.heap.size w2 w') (by kernel_rfl) (Below.refl _ _).drew (fun hHeld => ?_)
    replace BA := hide BA.out.drew
    replace BB := hide BB.out.drew
    refine wpAnyH_ready (rs := [0, 2]) (by kernel_rfl) (by simp) (AllReadyH.cons rfl (fun K hK => ?a0) (AllReadyH.cons rfl (fun K hK => ?b0) AllReadyH.nil))
    case a0 =>
      rw [if_pos (by kernel_rfl)]
      refine wp_cap_allD 7 rfl _ rfl rfl BA.out ?_
      rw [EVA.out]
      refine hK.out _ _ hHeld (fun hHeld => ?_)
      clear hK K
      try simp only [Act.put, List.setIfInBounds_toArray, List.set_cons_zero, List.set_cons_succ]
      refine wpAnyH_ready (rs := [1, 2]) (by kernel_rfl) (by simp) (AllReadyH.cons rfl (fun K hK => ?a1) (AllReadyH.cons rfl (fun K hK => ?b1) AllReadyH.nil))
      case a1 =>
        rw [if_pos (by kernel_rfl)]
        try go_simp
        refine (HRA.out _ (HW.out.trans hHeld)).mono ?_
        rintro e wc1 ⟨l1, rfl, ho, hb⟩
        have hbm := hb.mono (HW.out.trans hHeld).size
        have HX := hide (hHeld.trans hbm)
        replace BA := hide (BA.out.below hb BA.out.lt)
        replace BB := hide (BB.out.below hb BB.out.lt)
        have O1 := hide ho
        clear ho hbm
        refine hK.out _ _ HX.out (fun hHeld => ?_)
        clear HX hb
        clear hK K
        try simp only [Act.put, List.setIfInBounds_toArray, List.set_cons_zero, List.set_cons_succ]
        refine wpAnyH_ready (rs := [2]) (by kernel_rfl) (by simp) (AllReadyH.cons rfl (fun K hK => ?_) AllReadyH.nil)
        rw [if_pos (by kernel_rfl)]
        refine wp_cap_allD 9 rfl _ rfl rfl BB.out ?_
        rw [EVB.out]
        refine hK.out _ _ hHeld (fun hHeld => ?_)
        clear hK K
        try simp only [Act.put, List.setIfInBounds_toArray, List.set_cons_zero, List.set_cons_succ]
        refine wpAnyH_ready (rs := [3]) (by kernel_rfl) (by simp) (AllReadyH.cons rfl (fun K hK => ?_) AllReadyH.nil)
        rw [if_pos (by kernel_rfl)]
        try go_simp
        refine (HRB.out _ (HW.out.trans hHeld)).mono ?_
        rintro e wc2 ⟨l2, rfl, ho, hb⟩
        have hbm := hb.mono (HW.out.trans hHeld).size
        have HX := hide (hHeld.trans hbm)
        replace BA := hide (BA.out.below hb BA.out.lt)
        replace BB := hide (BB.out.below hb BB.out.lt)
        replace O1 := hide (O1.out.below hbm (Nat.le_refl _))
        have O2 := hide ho
        clear ho hbm
        refine hK.out _ _ HX.out (fun hHeld => ?_)
        clear HX hb
        clear hK K
        try simp only [Act.put, List.setIfInBounds_toArray, List.set_cons_zero, List.set_cons_succ]
        refine wpAnyH_ready (rs := [4]) (by kernel_rfl) (by simp) (AllReadyH.cons rfl (fun K hK => ?_) AllReadyH.nil)
        rw [if_pos (by kernel_rfl)]
        refine wp_cap_putAllD rfl _ _ rfl rfl BA.out RA l1 rfl HIA.out.keyL HIA.out.fpL O1.out.one ?_
        intro ws1 hb hg hs
        have hgb := (Below.refl w.heap.size _).grown hg (HW.out.trans hHeld).size (by intro k hk; simp at hk; omega)
        replace O1 := hide (O1.out.below hgb (Nat.le_refl _))
        replace O2 := hide (O2.out.below hgb (Nat.le_refl _))
        replace BB := hide (BB.out.grown hg (by intro h; injection h with h; omega))
        replace BA := hide hb
        have HX := hide (hHeld.trans hgb)
        clear hb hg hgb
        refine hK.out _ _ HX.out (fun hHeld => ?_)
        clear HX
        clear hK K
        try simp only [Act.put, List.setIfInBounds_toArray, List.set_cons_zero, List.set_cons_succ]
        refine wpAnyH_ready (rs := [5]) (by kernel_rfl) (by simp) (AllReadyH.cons rfl (fun K hK => ?_) AllReadyH.nil)
        rw [if_pos (by kernel_rfl)]
        refine wp_cap_putAllD rfl _ _ rfl rfl BB.out RB l2 rfl HIB.out.keyL HIB.out.fpL O2.out.one ?_
        intro ws2 hb hg hs
        have hgb := (Below.refl w.heap.size _).grown hg (HW.out.trans hHeld).size (by intro k hk; simp at hk; omega)
        replace O1 := hide (O1.out.below hgb (Nat.le_refl _))
        replace O2 := hide (O2.out.below hgb (Nat.le_refl _))
        replace BA := hide (BA.out.grown hg (by intro h; injection h with h; omega))
        replace BB := hide hb
        have HX := hide (hHeld.trans hgb)
        clear hb hg hgb
        refine hK.out _ _ HX.out (fun hHeld => ?_)
        clear HX
        clear hK K
        try simp only [Act.put, List.setIfInBounds_toArray, List.set_cons_zero, List.set_cons_succ]
        refine wpAnyH_done (by kernel_rfl) ?_ _
        go_wp2_with fail
        go_meet
        exact ⟨l1, l2, BA.out, BB.out, O1.out, O2.out, HW.out.trans hHeld⟩
      case b1 =>
        rw [if_pos (by kernel_rfl)]
        refine wp_cap_allD 9 rfl _ rfl rfl BB.out ?_
        rw [EVB.out]
        refine hK.out _ _ hHeld (fun hHeld => ?_)
        clear hK K
        try simp only [Act.put, List.setIfInBounds_toArray, List.set_cons_zero, List.set_cons_succ]
        refine wpAnyH_ready (rs := [1]) (by kernel_rfl) (by simp) (AllReadyH.cons rfl (fun K hK => ?_) AllReadyH.nil)
        rw [if_pos (by kernel_rfl)]
        try go_simp
        refine (HRA.out _ (HW.out.trans hHeld)).mono ?_
        rintro e wc1 ⟨l1, rfl, ho, hb⟩
        have hbm := hb.mono (HW.out.trans hHeld).size
        have HX := hide (hHeld.trans hbm)
        replace BA := hide (BA.out.below hb BA.out.lt)
        replace BB := hide (BB.out.below hb BB.out.lt)
        have O1 := hide ho
        clear ho hbm
        refine hK.out _ _ HX.out (fun hHeld => ?_)
        clear HX hb
        clear hK K
        try simp only [Act.put, List.setIfInBounds_toArray, List.set_cons_zero, List.set_cons_succ]
        refine wpAnyH_ready (rs := [3]) (by kernel_rfl) (by simp) (AllReadyH.cons rfl (fun K hK => ?_) AllReadyH.nil)
        rw [if_pos (by kernel_rfl)]
        try go_simp
        refine (HRB.out _ (HW.out.trans hHeld)).mono ?_
        rintro e wc2 ⟨l2, rfl, ho, hb⟩
        have hbm := hb.mono (HW.out.trans hHeld).size
        have HX := hide (hHeld.trans hbm)
        replace BA := hide (BA.out.below hb BA.out.lt)
        replace BB := hide (BB.out.below hb BB.out.lt)
        replace O1 := hide (O1.out.below hbm (Nat.le_refl _))
        have O2 := hide ho
        clear ho hbm
        refine hK.out _ _ HX.out (fun hHeld => ?_)
        clear HX hb
        clear hK K
        try simp only [Act.put, List.setIfInBounds_toArray, List.set_cons_zero, List.set_cons_succ]
        refine wpAnyH_ready (rs := [4]) (by kernel_rfl) (by simp) (AllReadyH.cons rfl (fun K hK => ?_) AllReadyH.nil)
        rw [if_pos (by kernel_rfl)]
        refine wp_cap_putAllD rfl _ _ rfl rfl BA.out RA l1 rfl HIA.out.keyL HIA.out.fpL O1.out.one ?_
        intro ws1 hb hg hs
        have hgb := (Below.refl w.heap.size _).grown hg (HW.out.trans hHeld).size (by intro k hk; simp at hk; omega)
        replace O1 := hide (O1.out.below hgb (Nat.le_refl _))
        replace O2 := hide (O2.out.below hgb (Nat.le_refl _))
        replace BB := hide (BB.out.grown hg (by intro h; injection h with h; omega))
        replace BA := hide hb
        have HX := hide (hHeld.trans hgb)
        clear hb hg hgb
        refine hK.out _ _ HX.out (fun hHeld => ?_)
        clear HX
        clear hK K
        try simp only [Act.put, List.setIfInBounds_toArray, List.set_cons_zero, List.set_cons_succ]
        refine wpAnyH_ready (rs := [5]) (by kernel_rfl) (by simp) (AllReadyH.cons rfl (fun K hK => ?_) AllReadyH.nil)
        rw [if_pos (by kernel_rfl)]
        refine wp_cap_putAllD rfl _ _ rfl rfl BB.out RB l2 rfl HIB.out.keyL HIB.out.fpL O2.out.one ?_
        intro ws2 hb hg hs
        have hgb := (Below.refl w.heap.size _).grown hg (HW.out.trans hHeld).size (by intro k hk; simp at hk; omega)
        replace O1 := hide (O1.out.below hgb (Nat.le_refl _))
        replace O2 := hide (O2.out.below hgb (Nat.le_refl _))
        replace BA := hide (BA.out.grown hg (by intro h; injection h with h; omega))
        replace BB := hide hb
        have HX := hide (hHeld.trans hgb)
        clear hb hg hgb
        refine hK.out _ _ HX.out (fun hHeld => ?_)
        clear HX
        clear hK K
        try simp only [Act.put, List.setIfInBounds_toArray, List.set_cons_zero, List.set_cons_succ]
        refine wpAnyH_done (by kernel_rfl) ?_ _
        go_wp2_with fail
        go_meet
        exact ⟨l1, l2, BA.out, BB.out, O1.out, O2.out, HW.out.trans hHeld⟩
    case b0 =>
      rw [if_pos (by kernel_rfl)]
      refine wp_cap_allD 9 rfl _ rfl rfl BB.out ?_
      rw [EVB.out]
      refine hK.out _ _ hHeld (fun hHeld => ?_)
      clear hK K
      try simp only [Act.put, List.setIfInBounds_toArray, List.set_cons_zero, List.set_cons_succ]
      refine wpAnyH_ready (rs := [0]) (by kernel_rfl) (by simp) (AllReadyH.cons rfl (fun K hK => ?_) AllReadyH.nil)
      rw [if_pos (by kernel_rfl)]
      refine wp_cap_allD 7 rfl _ rfl rfl BA.out ?_
      rw [EVA.out]
      refine hK.out _ _ hHeld (fun hHeld => ?_)
      clear hK K
      try simp only [Act.put, List.setIfInBounds_toArray, List.set_cons_zero, List.set_cons_succ]
      refine wpAnyH_ready (rs := [1]) (by kernel_rfl) (by simp) (AllReadyH.cons rfl (fun K hK => ?_) AllReadyH.nil)
      rw [if_pos (by kernel_rfl)]
      try go_simp
      refine (HRA.out _ (HW.out.trans hHeld)).mono ?_
      rintro e wc1 ⟨l1, rfl, ho, hb⟩
      have hbm := hb.mono (HW.out.trans hHeld).size
      have HX := hide (hHeld.trans hbm)
      replace BA := hide (BA.out.below hb BA.out.lt)
      replace BB := hide (BB.out.below hb BB.out.lt)
      have O1 := hide ho
      clear ho hbm
      refine hK.out _ _ HX.out (fun hHeld => ?_)
      clear HX hb
      clear hK K
      try simp only [Act.put, List.setIfInBounds_toArray, List.set_cons_zero, List.set_cons_succ]
      refine wpAnyH_ready (rs := [3]) (by kernel_rfl) (by simp) (AllReadyH.cons rfl (fun K hK => ?_) AllReadyH.nil)
      rw [if_pos (by kernel_rfl)]
      try go_simp
      refine (HRB.out _ (HW.out.trans hHeld)).mono ?_
      rintro e wc2 ⟨l2, rfl, ho, hb⟩
      have hbm := hb.mono (HW.out.trans hHeld).size
      have HX := hide (hHeld.trans hbm)
      replace BA := hide (BA.out.below hb BA.out.lt)
      replace BB := hide (BB.out.below hb BB.out.lt)
      replace O1 := hide (O1.out.below hbm (Nat.le_refl _))
      have O2 := hide ho
      clear ho hbm
      refine hK.out _ _ HX.out (fun hHeld => ?_)
      clear HX hb
      clear hK K
      try simp only [Act.put, List.setIfInBounds_toArray, List.set_cons_zero, List.set_cons_succ]
      refine wpAnyH_ready (rs := [4]) (by kernel_rfl) (by simp) (AllReadyH.cons rfl (fun K hK => ?_) AllReadyH.nil)
      rw [if_pos (by kernel_rfl)]
      refine wp_cap_putAllD rfl _ _ rfl rfl BA.out RA l1 rfl HIA.out.keyL HIA.out.fpL O1.out.one ?_
      intro ws1 hb hg hs
      have hgb := (Below.refl w.heap.size _).grown hg (HW.out.trans hHeld).size (by intro k hk; simp at hk; omega)
      replace O1 := hide (O1.out.below hgb (Nat.le_refl _))
      replace O2 := hide (O2.out.below hgb (Nat.le_refl _))
      replace BB := hide (BB.out.grown hg (by intro h; injection h with h; omega))
      replace BA := hide hb
      have HX := hide (hHeld.trans hgb)
      clear hb hg hgb
      refine hK.out _ _ HX.out (fun hHeld => ?_)
      clear HX
      clear hK K
      try simp only [Act.put, List.setIfInBounds_toArray, List.set_cons_zero, List.set_cons_succ]
      refine wpAnyH_ready (rs := [5]) (by kernel_rfl) (by simp) (AllReadyH.cons rfl (fun K hK => ?_) AllReadyH.nil)
      rw [if_pos (by kernel_rfl)]
      refine wp_cap_putAllD rfl _ _ rfl rfl BB.out RB l2 rfl HIB.out.keyL HIB.out.fpL O2.out.one ?_
      intro ws2 hb hg hs
      have hgb := (Below.refl w.heap.size _).grown hg (HW.out.trans hHeld).size (by intro k hk; simp at hk; omega)
      replace O1 := hide (O1.out.below hgb (Nat.le_refl _))
      replace O2 := hide (O2.out.below hgb (Nat.le_refl _))
      replace BA := hide (BA.out.grown hg (by intro h; injection h with h; omega))
      replace BB := hide hb
      have HX := hide (hHeld.trans hgb)
      clear hb hg hgb
      refine hK.out _ _ HX.out (fun hHeld => ?_)
      clear HX
      clear hK K
      try simp only [Act.put, List.setIfInBounds_toArray, List.set_cons_zero, List.set_cons_succ]
      refine wpAnyH_done (by kernel_rfl) ?_ _
      go_wp2_with fail
      go_meet
      exact ⟨l1, l2, BA.out, BB.out, O1.out, O2.out, HW.out.trans hHeld⟩
  case rest =>
    obtain ⟨l1, l2, hBA, hBB, hO1, hO2, hW⟩ := hcut
    replace BA := hide hBA
    replace BB := hide hBB
    have O1 := hide hO1
    have O2 := hide hO2
    have HCV1 := hide (show CapV RA l1 from ⟨HIA.out.keyL, HIA.out.fpL, hO1.len⟩)
    replace HW := hide hW
    clear hBA hBB hO1 hO2 hW HRA HRB
    cases twin
    case false =>
      go_upto_region 5 with fail
      have OR1 := hide (O1.out.more HW.out.size)
      have OR2 := hide (O2.out.more HW.out.size)
      have HV1 := hide (fun (w' : World) (_ : True) => Valid_any RA l1 w' HCV1.out)
      have HV2 := hide (fun (w' : World) (_ : True) => Valid_ref RA l1 w' HCV1.out)
      have HR1 := hide (fun (w' : World) (_ : True) => read_any RA l1 w' HCV1.out)
      have HR2 := hide (fun (w' : World) (_ : True) => read_ref RA l1 w' HCV1.out)
      have HX1 := hide (fun (w' : World) (_ : True) => write_any RA l1 w' HCV1.out)
      have HX2 := hide (fun (w' : World) (_ : True) => write_ref RA l1 w' HCV1.out)
      have HS1 := hide (fun (w' : World) (h : Bs w' w'.heap.size l1 RA.lit ∧ Bs w' w'.heap.size l2 RB.lit) => same_caps RA RB l1 l2 w' HIA.out.keyL HIA.out.fpL HIB.out.keyL HIB.out.fpL h.1 h.2 HIA.out.litB HIB.out.litB)
      have HS2 := hide (fun (w' : World) (h : Bs w' w'.heap.size l1 RA.lit ∧ Bs w' w'.heap.size l2 RB.lit) => same_cap RA RB l1 l2 w' HIA.out.keyL HIA.out.fpL HIB.out.keyL HIB.out.fpL h.1 h.2 HIA.out.litB HIB.out.litB)
      have HRT := hide (fun (w' : World) (h : Bs w' w'.heap.size l2 RB.lit) => right_any RB l2 w' HIB.out h)
      have HWR := hide (right_wf HIB.out.toWf)
      have HVR := hide (right_valid RB)
      obtain ⟨b1, E1⟩ : ∃ x, Hid (decide RA.Valid = x) := ⟨_, hide rfl⟩
      obtain ⟨b2, E2⟩ : ∃ x, Hid (readF RA = x) := ⟨_, hide rfl⟩
      obtain ⟨b3, E3⟩ : ∃ x, Hid (writeF RA = x) := ⟨_, hide rfl⟩
      obtain ⟨b4, E4⟩ : ∃ x, Hid (sameF RA RB = x) := ⟨_, hide rfl⟩
      rw [E1.out] at HV1 HV2
      rw [E2.out] at HR1 HR2
      rw [E3.out] at HX1 HX2
      rw [E4.out] at HS1 HS2
      obtain ⟨V1, EV1⟩ : ∃ x, Hid (capV RA l1 = x) := ⟨_, hide rfl⟩
      obtain ⟨V2, EV2⟩ : ∃ x, Hid (capV RB l2 = x) := ⟨_, hide rfl⟩
      rw [EV1.out] at HV1 HV2 HR1 HR2 HX1 HX2 HS1 HS2
      rw [EV2.out] at HS1 HS2 HRT
      obtain ⟨RR, ERR⟩ : ∃ x, Hid (rightF RB = x) := ⟨_, hide rfl⟩
      rw [ERR.out] at HRT HWR HVR
      replace HT := hide ((HT.out.below HW.out (Nat.le_refl _)).more HW.out.size)
      obtain ⟨B0, hB0⟩ : ∃ n, wc.heap.size = n := ⟨_, rfl⟩
      refine wp_region_held_drew (S := fun w' => Below wc.heap.size wc w') (by kernel_rfl) (Below.refl _ _).drew (fun hHeld => ?_)
      refine take_d 17 (i := 0) (v := V1) rfl (by kernel_rfl) (by kernel_rfl) (by kernel_rfl) (by kernel_rfl) (fun _ _ _ h => h) (Or.inl ⟨by kernel_rfl, fun w' hS => exec_cap_all _ rfl rfl (BA.out.below hS BA.out.lt) EV1.out⟩) hHeld ?_
      simp only [Act.put, List.setIfInBounds_toArray, List.set_cons_zero, List.set_cons_succ]
      refine take_d 19 (i := 2) (v := V1) rfl (by kernel_rfl) (by kernel_rfl) (by kernel_rfl) (by kernel_rfl) (fun _ _ _ h => h) (Or.inl ⟨by kernel_rfl, fun w' hS => exec_cap_all _ rfl rfl (BA.out.below hS BA.out.lt) EV1.out⟩) hHeld ?_
      simp only [Act.put, List.setIfInBounds_toArray, List.set_cons_zero, List.set_cons_succ]
      refine wpAnyH_ready (rs := [1]) (by kernel_rfl) (by simp) (AllReadyH.cons rfl (fun K hK => ?_) AllReadyH.nil)
      rw [if_pos (by kernel_rfl)]
      try go_simp
      refine (HV1.out _ (trivial)).mono ?_
      rintro e wz ⟨rfl, hb⟩
      have HX := hide (hHeld.trans (hb.mono hHeld.size))
      refine hK.out _ _ HX.out (fun hHeld => ?_)
      clear HX hb
      clear hK K
      try simp only [Act.put, List.setIfInBounds_toArray, List.set_cons_zero, List.set_cons_succ]
      refine wpAnyH_ready (rs := [3]) (by kernel_rfl) (by simp) (AllReadyH.cons rfl (fun K hK => ?_) AllReadyH.nil)
      rw [if_pos (by kernel_rfl)]
      try go_simp
      refine (HV2.out _ (trivial)).mono ?_
      rintro e wz ⟨rfl, hb⟩
      have HX := hide (hHeld.trans (hb.mono hHeld.size))
      refine hK.out _ _ HX.out (fun hHeld => ?_)
      clear HX hb
      clear hK K
      try simp only [Act.put, List.setIfInBounds_toArray, List.set_cons_zero, List.set_cons_succ]
      refine take_d 21 (i := 4) (v := .bool true) rfl (by kernel_rfl) (by kernel_rfl) (by kernel_rfl) (by kernel_rfl) (fun _ _ _ h => h) (Or.inl ⟨by kernel_rfl, fun w' hS => by go_simp⟩) hHeld ?_
      simp only [Act.put, List.setIfInBounds_toArray, List.set_cons_zero, List.set_cons_succ]
      refine take_d 22 (i := 5) (v := .bool true) rfl (by kernel_rfl) (by kernel_rfl) (by kernel_rfl) (by kernel_rfl) (fun _ _ _ h => h) (Or.inl ⟨by kernel_rfl, fun w' hS => by go_simp⟩) hHeld ?_
      simp only [Act.put, List.setIfInBounds_toArray, List.set_cons_zero, List.set_cons_succ]
      refine take_d 23 (i := 6) (v := V1) rfl (by kernel_rfl) (by kernel_rfl) (by kernel_rfl) (by kernel_rfl) (fun _ _ _ h => h) (Or.inl ⟨by kernel_rfl, fun w' hS => exec_cap_all _ rfl rfl (BA.out.below hS BA.out.lt) EV1.out⟩) hHeld ?_
      simp only [Act.put, List.setIfInBounds_toArray, List.set_cons_zero, List.set_cons_succ]
      refine take_d 25 (i := 8) (v := V1) rfl (by kernel_rfl) (by kernel_rfl) (by kernel_rfl) (by kernel_rfl) (fun _ _ _ h => h) (Or.inl ⟨by kernel_rfl, fun w' hS => exec_cap_all _ rfl rfl (BA.out.below hS BA.out.lt) EV1.out⟩) hHeld ?_
      simp only [Act.put, List.setIfInBounds_toArray, List.set_cons_zero, List.set_cons_succ]
      refine wpAnyH_ready (rs := [7]) (by kernel_rfl) (by simp) (AllReadyH.cons rfl (fun K hK => ?_) AllReadyH.nil)
      rw [if_pos (by kernel_rfl)]
      try go_simp
      refine (HR1.out _ (trivial)).mono ?_
      rintro e wz ⟨rfl, hb⟩
      have HX := hide (hHeld.trans (hb.mono hHeld.size))
      refine hK.out _ _ HX.out (fun hHeld => ?_)
      clear HX hb
      clear hK K
      try simp only [Act.put, List.setIfInBounds_toArray, List.set_cons_zero, List.set_cons_succ]
      refine wpAnyH_ready (rs := [9]) (by kernel_rfl) (by simp) (AllReadyH.cons rfl (fun K hK => ?_) AllReadyH.nil)
      rw [if_pos (by kernel_rfl)]
      try go_simp
      refine (HR2.out _ (trivial)).mono ?_
      rintro e wz ⟨rfl, hb⟩
      have HX := hide (hHeld.trans (hb.mono hHeld.size))
      refine hK.out _ _ HX.out (fun hHeld => ?_)
      clear HX hb
      clear hK K
      try simp only [Act.put, List.setIfInBounds_toArray, List.set_cons_zero, List.set_cons_succ]
      refine take_d 27 (i := 10) (v := .bool true) rfl (by kernel_rfl) (by kernel_rfl) (by kernel_rfl) (by kernel_rfl) (fun _ _ _ h => h) (Or.inl ⟨by kernel_rfl, fun w' hS => by go_simp⟩) hHeld ?_
      simp only [Act.put, List.setIfInBounds_toArray, List.set_cons_zero, List.set_cons_succ]
      refine take_d 28 (i := 11) (v := .bool true) rfl (by kernel_rfl) (by kernel_rfl) (by kernel_rfl) (by kernel_rfl) (fun _ _ _ h => h) (Or.inl ⟨by kernel_rfl, fun w' hS => by go_simp⟩) hHeld ?_
      simp only [Act.put, List.setIfInBounds_toArray, List.set_cons_zero, List.set_cons_succ]
      refine take_d 29 (i := 12) (v := .bool true) rfl (by kernel_rfl) (by kernel_rfl) (by kernel_rfl) (by kernel_rfl) (fun _ _ _ h => h) (Or.inl ⟨by kernel_rfl, fun w' hS => by go_simp⟩) hHeld ?_
      simp only [Act.put, List.setIfInBounds_toArray, List.set_cons_zero, List.set_cons_succ]
      refine take_d 30 (i := 13) (v := V1) rfl (by kernel_rfl) (by kernel_rfl) (by kernel_rfl) (by kernel_rfl) (fun _ _ _ h => h) (Or.inl ⟨by kernel_rfl, fun w' hS => exec_cap_all _ rfl rfl (BA.out.below hS BA.out.lt) EV1.out⟩) hHeld ?_
      simp only [Act.put, List.setIfInBounds_toArray, List.set_cons_zero, List.set_cons_succ]
      refine take_d 32 (i := 15) (v := V1) rfl (by kernel_rfl) (by kernel_rfl) (by kernel_rfl) (by kernel_rfl) (fun _ _ _ h => h) (Or.inl ⟨by kernel_rfl, fun w' hS => exec_cap_all _ rfl rfl (BA.out.below hS BA.out.lt) EV1.out⟩) hHeld ?_
      simp only [Act.put, List.setIfInBounds_toArray, List.set_cons_zero, List.set_cons_succ]
      refine wpAnyH_ready (rs := [14]) (by kernel_rfl) (by simp) (AllReadyH.cons rfl (fun K hK => ?_) AllReadyH.nil)
      rw [if_pos (by kernel_rfl)]
      try go_simp
      refine (HX1.out _ (trivial)).mono ?_
      rintro e wz ⟨rfl, hb⟩
      have HX := hide (hHeld.trans (hb.mono hHeld.size))
      refine hK.out _ _ HX.out (fun hHeld => ?_)
      clear HX hb
      clear hK K
      try simp only [Act.put, List.setIfInBounds_toArray, List.set_cons_zero, List.set_cons_succ]
      refine wpAnyH_ready (rs := [16]) (by kernel_rfl) (by simp) (AllReadyH.cons rfl (fun K hK => ?_) AllReadyH.nil)
      rw [if_pos (by kernel_rfl)]
      try go_simp
      refine (HX2.out _ (trivial)).mono ?_
      rintro e wz ⟨rfl, hb⟩
      have HX := hide (hHeld.trans (hb.mono hHeld.size))
      refine hK.out _ _ HX.out (fun hHeld => ?_)
      clear HX hb
      clear hK K
      try simp only [Act.put, List.setIfInBounds_toArray, List.set_cons_zero, List.set_cons_succ]
      refine take_d 34 (i := 17) (v := .bool true) rfl (by kernel_rfl) (by kernel_rfl) (by kernel_rfl) (by kernel_rfl) (fun _ _ _ h => h) (Or.inl ⟨by kernel_rfl, fun w' hS => by go_simp⟩) hHeld ?_
      simp only [Act.put, List.setIfInBounds_toArray, List.set_cons_zero, List.set_cons_succ]
      refine take_d 35 (i := 18) (v := .bool true) rfl (by kernel_rfl) (by kernel_rfl) (by kernel_rfl) (by kernel_rfl) (fun _ _ _ h => h) (Or.inl ⟨by kernel_rfl, fun w' hS => by go_simp⟩) hHeld ?_
      simp only [Act.put, List.setIfInBounds_toArray, List.set_cons_zero, List.set_cons_succ]
      refine take_d 36 (i := 19) (v := .bool true) rfl (by kernel_rfl) (by kernel_rfl) (by kernel_rfl) (by kernel_rfl) (fun _ _ _ h => h) (Or.inl ⟨by kernel_rfl, fun w' hS => by go_simp⟩) hHeld ?_
      simp only [Act.put, List.setIfInBounds_toArray, List.set_cons_zero, List.set_cons_succ]
      refine take_d 37 (i := 20) (v := V1) rfl (by kernel_rfl) (by kernel_rfl) (by kernel_rfl) (by kernel_rfl) (fun _ _ _ h => h) (Or.inl ⟨by kernel_rfl, fun w' hS => exec_cap_all _ rfl rfl (BA.out.below hS BA.out.lt) EV1.out⟩) hHeld ?_
      simp only [Act.put, List.setIfInBounds_toArray, List.set_cons_zero, List.set_cons_succ]
      refine take_d 38 (i := 21) (v := V2) rfl (by kernel_rfl) (by kernel_rfl) (by kernel_rfl) (by kernel_rfl) (fun _ _ _ h => h) (Or.inl ⟨by kernel_rfl, fun w' hS => exec_cap_all _ rfl rfl (BB.out.below hS BB.out.lt) EV2.out⟩) hHeld ?_
      simp only [Act.put, List.setIfInBounds_toArray, List.set_cons_zero, List.set_cons_succ]
      refine take_d 40 (i := 23) (v := V1) rfl (by kernel_rfl) (by kernel_rfl) (by kernel_rfl) (by kernel_rfl) (fun _ _ _ h => h) (Or.inl ⟨by kernel_rfl, fun w' hS => exec_cap_all _ rfl rfl (BA.out.below hS BA.out.lt) EV1.out⟩) hHeld ?_
      simp only [Act.put, List.setIfInBounds_toArray, List.set_cons_zero, List.set_cons_succ]
      refine take_d 41 (i := 24) (v := V2) rfl (by kernel_rfl) (by kernel_rfl) (by kernel_rfl) (by kernel_rfl) (fun _ _ _ h => h) (Or.inl ⟨by kernel_rfl, fun w' hS => exec_cap_all _ rfl rfl (BB.out.below hS BB.out.lt) EV2.out⟩) hHeld ?_
      simp only [Act.put, List.setIfInBounds_toArray, List.set_cons_zero, List.set_cons_succ]
      refine wpAnyH_ready (rs := [22]) (by kernel_rfl) (by simp) (AllReadyH.cons rfl (fun K hK => ?_) AllReadyH.nil)
      rw [if_pos (by kernel_rfl)]
      try go_simp
      refine (HS1.out _ (⟨(OR1.out.below hHeld (Nat.le_refl _)).more hHeld.size, (OR2.out.below hHeld (Nat.le_refl _)).more hHeld.size⟩)).mono ?_
      rintro e wz ⟨rfl, hb⟩
      have HX := hide (hHeld.trans (hb.mono hHeld.size))
      refine hK.out _ _ HX.out (fun hHeld => ?_)
      clear HX hb
      clear hK K
      try simp only [Act.put, List.setIfInBounds_toArray, List.set_cons_zero, List.set_cons_succ]
      refine wpAnyH_ready (rs := [25]) (by kernel_rfl) (by simp) (AllReadyH.cons rfl (fun K hK => ?_) AllReadyH.nil)
      rw [if_pos (by kernel_rfl)]
      try go_simp
      refine (HS2.out _ (⟨(OR1.out.below hHeld (Nat.le_refl _)).more hHeld.size, (OR2.out.below hHeld (Nat.le_refl _)).more hHeld.size⟩)).mono ?_
      rintro e wz ⟨rfl, hb⟩
      have HX := hide (hHeld.trans (hb.mono hHeld.size))
      refine hK.out _ _ HX.out (fun hHeld => ?_)
      clear HX hb
      clear hK K
      try simp only [Act.put, List.setIfInBounds_toArray, List.set_cons_zero, List.set_cons_succ]
      refine take_d 43 (i := 26) (v := .bool true) rfl (by kernel_rfl) (by kernel_rfl) (by kernel_rfl) (by kernel_rfl) (fun _ _ _ h => h) (Or.inl ⟨by kernel_rfl, fun w' hS => by go_simp⟩) hHeld ?_
      simp only [Act.put, List.setIfInBounds_toArray, List.set_cons_zero, List.set_cons_succ]
      refine take_d 44 (i := 27) (v := .bool true) rfl (by kernel_rfl) (by kernel_rfl) (by kernel_rfl) (by kernel_rfl) (fun _ _ _ h => h) (Or.inl ⟨by kernel_rfl, fun w' hS => by go_simp⟩) hHeld ?_
      simp only [Act.put, List.setIfInBounds_toArray, List.set_cons_zero, List.set_cons_succ]
      refine take_d 45 (i := 28) (v := .bool true) rfl (by kernel_rfl) (by kernel_rfl) (by kernel_rfl) (by kernel_rfl) (fun _ _ _ h => h) (Or.inl ⟨by kernel_rfl, fun w' hS => by go_simp⟩) hHeld ?_
      simp only [Act.put, List.setIfInBounds_toArray, List.set_cons_zero, List.set_cons_succ]
      refine take_d 46 (i := 29) (v := V2) rfl (by kernel_rfl) (by kernel_rfl) (by kernel_rfl) (by kernel_rfl) (fun _ _ _ h => h) (Or.inl ⟨by kernel_rfl, fun w' hS => exec_cap_all _ rfl rfl (BB.out.below hS BB.out.lt) EV2.out⟩) hHeld ?_
      simp only [Act.put, List.setIfInBounds_toArray, List.set_cons_zero, List.set_cons_succ]
      refine wpAnyH_ready (rs := [30]) (by kernel_rfl) (by simp) (AllReadyH.cons rfl (fun K hK => ?_) AllReadyH.nil)
      rw [if_pos (by kernel_rfl)]
      try go_simp
      refine (HRT.out _ ((OR2.out.below hHeld (Nat.le_refl _)).more hHeld.size)).mono ?_
      rintro e wz ⟨lr, rfl, hor, hb⟩
      have HX := hide (hHeld.trans (hb.mono hHeld.size))
      have HCR := hide (show CapV RR lr from ⟨HWR.out.keyL, HWR.out.fpL, Bs.len (show Bs _ _ lr RR.lit from Rd.of_own hor)⟩)
      clear hor
      refine hK.out _ _ HX.out (fun hHeld => ?_)
      clear HX hb
      clear hK K
      try simp only [Act.put, List.setIfInBounds_toArray, List.set_cons_zero, List.set_cons_succ]
      refine wpAnyH_ready (rs := [31]) (by kernel_rfl) (by simp) (AllReadyH.cons rfl (fun K hK => ?_) AllReadyH.nil)
      rw [if_pos (by kernel_rfl)]
      try go_simp
      refine (Valid_any RR lr _ HCR.out).mono ?_
      rintro e wz ⟨rfl, hb⟩
      rw [decide_eq_true HVR.out]
      have HX := hide (hHeld.trans (hb.mono hHeld.size))
      refine hK.out _ _ HX.out (fun hHeld => ?_)
      clear HX hb
      clear hK K
      try simp only [Act.put, List.setIfInBounds_toArray, List.set_cons_zero, List.set_cons_succ]
      refine take_d 49 (i := 32) (v := .bool true) rfl (by kernel_rfl) (by kernel_rfl) (by kernel_rfl) (by kernel_rfl) (fun _ _ _ h => h) (Or.inl ⟨by kernel_rfl, fun w' hS => by go_simp⟩) hHeld ?_
      simp only [Act.put, List.setIfInBounds_toArray, List.set_cons_zero, List.set_cons_succ]
      refine take_d 50 (i := 33) (v := .bool true) rfl (by kernel_rfl) (by kernel_rfl) (by kernel_rfl) (by kernel_rfl) (fun _ _ _ h => h) (Or.inl ⟨by kernel_rfl, fun w' hS => by go_simp⟩) hHeld ?_
      simp only [Act.put, List.setIfInBounds_toArray, List.set_cons_zero, List.set_cons_succ]
      refine wpAnyH_ready (rs := [34]) (by kernel_rfl) (by simp) (AllReadyH.cons rfl (fun K hK => ?_) AllReadyH.nil)
      rw [if_pos (by kernel_rfl)]
      try go_simp
      refine (wakes13 _ ((HT.out.below hHeld (Nat.le_refl _)).more hHeld.size)).mono ?_
      rintro e wz ⟨rfl, hb⟩
      have HX := hide (hHeld.trans (hb.mono hHeld.size))
      refine hK.out _ _ HX.out (fun hHeld => ?_)
      clear HX hb
      clear hK K
      try simp only [Act.put, List.setIfInBounds_toArray, List.set_cons_zero, List.set_cons_succ]
      refine take_d 52 (i := 35) (v := .bool true) rfl (by kernel_rfl) (by kernel_rfl) (by kernel_rfl) (by kernel_rfl) (fun _ _ _ h => h) (Or.inl ⟨by kernel_rfl, fun w' hS => by go_simp⟩) hHeld ?_
      simp only [Act.put, List.setIfInBounds_toArray, List.set_cons_zero, List.set_cons_succ]
      refine take_d 6 (i := 36) (v := .bool true) rfl (by kernel_rfl) (by kernel_rfl) (by kernel_rfl) (by kernel_rfl) (fun _ _ _ h => h) (Or.inl ⟨by kernel_rfl, fun w' hS => by go_simp⟩) hHeld ?_
      simp only [Act.put, List.setIfInBounds_toArray, List.set_cons_zero, List.set_cons_succ]
      refine wpAnyH_done (by kernel_rfl) ?_ _
      have HWz := hide (HW.out.trans (hHeld.mono HW.out.size))
      go_wp2_with fail
      go_ret
      exact ⟨rfl, HWz.out⟩
    case true =>
      go_upto_region 5 with (first
        | (refine wpList_cap_all _ rfl rfl rfl BA.out ?_)
        | (refine wpList_cap_lit _ rfl rfl rfl BA.out ?_)
        | (refine wpList_cap_putAll _ _ rfl rfl rfl BB.out RA l1 rfl HIA.out.keyL HIA.out.fpL O1.out.one ?_; intro w4 hb4 hg4 hs4; have hgb := (Below.refl w.heap.size wc).grown hg4 HW.out.size (by intro k hk; simp at hk; omega); replace O1 := hide (O1.out.below hgb (Nat.le_refl _)); replace BA := hide (BA.out.grown hg4 (by intro h; injection h with h; omega)); replace BB := hide hb4; replace HW := hide (HW.out.trans hgb); clear hb4 hg4 hgb)
        | (go_at_call 20; refine (copy_bytes l1 RA.lit _ w.heap.size O1.out (by have := HSA.out; omega)).mono ?_; rintro e w5 ⟨l5, rfl, ho5, hb5⟩; have hs5 := hb5.size; replace BA := hide (BA.out.below hb5 BA.out.lt); replace BB := hide (BB.out.below hb5 BB.out.lt); replace O1 := hide (O1.out.below (hb5.mono HW.out.size) (Nat.le_refl _)); replace HW := hide (HW.out.trans (hb5.mono HW.out.size)); have L5 := hide (own_one ho5 l5 (by simp)); have O5 := hide ho5; clear ho5 hb5)
        | (refine wpList_cap_putLit _ _ rfl rfl rfl BB.out l5 rfl L5.out RA.lit ?_; intro wr hb6 hg6 hs6; have hgb := (Below.refl w.heap.size w5).grown hg6 HW.out.size (by intro k hk; simp at hk; omega); replace O1 := hide (O1.out.below hgb (Nat.le_refl _)); replace O5 := hide (World.ownsRow.kept O5.out hg6 (.inr (by rintro h; exact own_ne_blk O5.out BB.out.blk (by decide) h.symm))); replace BA := hide (BA.out.grown hg6 (by intro h; injection h with h; omega)); replace BB := hide (show CapB wr (w.heap.size + 1) RA l5 from hb6); replace HW := hide (HW.out.trans hgb); clear hb6 hg6 hgb))
      have OR1 := hide (O1.out.more HW.out.size)
      have OR2 := hide (show Bs wr wr.heap.size l5 RA.lit from Rd.of_own O5.out)
      have HV1 := hide (fun (w' : World) (_ : True) => Valid_any RA l1 w' HCV1.out)
      have HV2 := hide (fun (w' : World) (_ : True) => Valid_ref RA l1 w' HCV1.out)
      have HR1 := hide (fun (w' : World) (_ : True) => read_any RA l1 w' HCV1.out)
      have HR2 := hide (fun (w' : World) (_ : True) => read_ref RA l1 w' HCV1.out)
      have HX1 := hide (fun (w' : World) (_ : True) => write_any RA l1 w' HCV1.out)
      have HX2 := hide (fun (w' : World) (_ : True) => write_ref RA l1 w' HCV1.out)
      have HS1 := hide (fun (w' : World) (h : Bs w' w'.heap.size l1 RA.lit ∧ Bs w' w'.heap.size l5 RA.lit) => same_caps RA RA l1 l5 w' HIA.out.keyL HIA.out.fpL HIA.out.keyL HIA.out.fpL h.1 h.2 HIA.out.litB HIA.out.litB)
      have HS2 := hide (fun (w' : World) (h : Bs w' w'.heap.size l1 RA.lit ∧ Bs w' w'.heap.size l5 RA.lit) => same_cap RA RA l1 l5 w' HIA.out.keyL HIA.out.fpL HIA.out.keyL HIA.out.fpL h.1 h.2 HIA.out.litB HIA.out.litB)
      have HRT := hide (fun (w' : World) (h : Bs w' w'.heap.size l5 RA.lit) => right_any RA l5 w' HIA.out h)
      have HWR := hide (right_wf HIA.out.toWf)
      have HVR := hide (right_valid RA)
      obtain ⟨b1, E1⟩ : ∃ x, Hid (decide RA.Valid = x) := ⟨_, hide rfl⟩
      obtain ⟨b2, E2⟩ : ∃ x, Hid (readF RA = x) := ⟨_, hide rfl⟩
      obtain ⟨b3, E3⟩ : ∃ x, Hid (writeF RA = x) := ⟨_, hide rfl⟩
      obtain ⟨b4, E4⟩ : ∃ x, Hid (sameF RA RA = x) := ⟨_, hide rfl⟩
      rw [E1.out] at HV1 HV2
      rw [E2.out] at HR1 HR2
      rw [E3.out] at HX1 HX2
      rw [E4.out] at HS1 HS2
      obtain ⟨V1, EV1⟩ : ∃ x, Hid (capV RA l1 = x) := ⟨_, hide rfl⟩
      obtain ⟨V2, EV2⟩ : ∃ x, Hid (capV RA l5 = x) := ⟨_, hide rfl⟩
      rw [EV1.out] at HV1 HV2 HR1 HR2 HX1 HX2 HS1 HS2
      rw [EV2.out] at HS1 HS2 HRT
      obtain ⟨RR, ERR⟩ : ∃ x, Hid (rightF RA = x) := ⟨_, hide rfl⟩
      rw [ERR.out] at HRT HWR HVR
      replace HT := hide ((HT.out.below HW.out (Nat.le_refl _)).more HW.out.size)
      obtain ⟨B0, hB0⟩ : ∃ n, wr.heap.size = n := ⟨_, rfl⟩
      refine wp_region_held_drew (S := fun w' => Below wr.heap.size wr w') (by kernel_rfl) (Below.refl _ _).drew (fun hHeld => ?_)
      refine take_d 17 (i := 0) (v := V1) rfl (by kernel_rfl) (by kernel_rfl) (by kernel_rfl) (by kernel_rfl) (fun _ _ _ h => h) (Or.inl ⟨by kernel_rfl, fun w' hS => exec_cap_all _ rfl rfl (BA.out.below hS BA.out.lt) EV1.out⟩) hHeld ?_
      simp only [Act.put, List.setIfInBounds_toArray, List.set_cons_zero, List.set_cons_succ]
      refine take_d 19 (i := 2) (v := V1) rfl (by kernel_rfl) (by kernel_rfl) (by kernel_rfl) (by kernel_rfl) (fun _ _ _ h => h) (Or.inl ⟨by kernel_rfl, fun w' hS => exec_cap_all _ rfl rfl (BA.out.below hS BA.out.lt) EV1.out⟩) hHeld ?_
      simp only [Act.put, List.setIfInBounds_toArray, List.set_cons_zero, List.set_cons_succ]
      refine wpAnyH_ready (rs := [1]) (by kernel_rfl) (by simp) (AllReadyH.cons rfl (fun K hK => ?_) AllReadyH.nil)
      rw [if_pos (by kernel_rfl)]
      try go_simp
      refine (HV1.out _ (trivial)).mono ?_
      rintro e wz ⟨rfl, hb⟩
      have HX := hide (hHeld.trans (hb.mono hHeld.size))
      refine hK.out _ _ HX.out (fun hHeld => ?_)
      clear HX hb
      clear hK K
      try simp only [Act.put, List.setIfInBounds_toArray, List.set_cons_zero, List.set_cons_succ]
      refine wpAnyH_ready (rs := [3]) (by kernel_rfl) (by simp) (AllReadyH.cons rfl (fun K hK => ?_) AllReadyH.nil)
      rw [if_pos (by kernel_rfl)]
      try go_simp
      refine (HV2.out _ (trivial)).mono ?_
      rintro e wz ⟨rfl, hb⟩
      have HX := hide (hHeld.trans (hb.mono hHeld.size))
      refine hK.out _ _ HX.out (fun hHeld => ?_)
      clear HX hb
      clear hK K
      try simp only [Act.put, List.setIfInBounds_toArray, List.set_cons_zero, List.set_cons_succ]
      refine take_d 21 (i := 4) (v := .bool true) rfl (by kernel_rfl) (by kernel_rfl) (by kernel_rfl) (by kernel_rfl) (fun _ _ _ h => h) (Or.inl ⟨by kernel_rfl, fun w' hS => by go_simp⟩) hHeld ?_
      simp only [Act.put, List.setIfInBounds_toArray, List.set_cons_zero, List.set_cons_succ]
      refine take_d 22 (i := 5) (v := .bool true) rfl (by kernel_rfl) (by kernel_rfl) (by kernel_rfl) (by kernel_rfl) (fun _ _ _ h => h) (Or.inl ⟨by kernel_rfl, fun w' hS => by go_simp⟩) hHeld ?_
      simp only [Act.put, List.setIfInBounds_toArray, List.set_cons_zero, List.set_cons_succ]
      refine take_d 23 (i := 6) (v := V1) rfl (by kernel_rfl) (by kernel_rfl) (by kernel_rfl) (by kernel_rfl) (fun _ _ _ h => h) (Or.inl ⟨by kernel_rfl, fun w' hS => exec_cap_all _ rfl rfl (BA.out.below hS BA.out.lt) EV1.out⟩) hHeld ?_
      simp only [Act.put, List.setIfInBounds_toArray, List.set_cons_zero, List.set_cons_succ]
      refine take_d 25 (i := 8) (v := V1) rfl (by kernel_rfl) (by kernel_rfl) (by kernel_rfl) (by kernel_rfl) (fun _ _ _ h => h) (Or.inl ⟨by kernel_rfl, fun w' hS => exec_cap_all _ rfl rfl (BA.out.below hS BA.out.lt) EV1.out⟩) hHeld ?_
      simp only [Act.put, List.setIfInBounds_toArray, List.set_cons_zero, List.set_cons_succ]
      refine wpAnyH_ready (rs := [7]) (by kernel_rfl) (by simp) (AllReadyH.cons rfl (fun K hK => ?_) AllReadyH.nil)
      rw [if_pos (by kernel_rfl)]
      try go_simp
      refine (HR1.out _ (trivial)).mono ?_
      rintro e wz ⟨rfl, hb⟩
      have HX := hide (hHeld.trans (hb.mono hHeld.size))
      refine hK.out _ _ HX.out (fun hHeld => ?_)
      clear HX hb
      clear hK K
      try simp only [Act.put, List.setIfInBounds_toArray, List.set_cons_zero, List.set_cons_succ]
      refine wpAnyH_ready (rs := [9]) (by kernel_rfl) (by simp) (AllReadyH.cons rfl (fun K hK => ?_) AllReadyH.nil)
      rw [if_pos (by kernel_rfl)]
      try go_simp
      refine (HR2.out _ (trivial)).mono ?_
      rintro e wz ⟨rfl, hb⟩
      have HX := hide (hHeld.trans (hb.mono hHeld.size))
      refine hK.out _ _ HX.out (fun hHeld => ?_)
      clear HX hb
      clear hK K
      try simp only [Act.put, List.setIfInBounds_toArray, List.set_cons_zero, List.set_cons_succ]
      refine take_d 27 (i := 10) (v := .bool true) rfl (by kernel_rfl) (by kernel_rfl) (by kernel_rfl) (by kernel_rfl) (fun _ _ _ h => h) (Or.inl ⟨by kernel_rfl, fun w' hS => by go_simp⟩) hHeld ?_
      simp only [Act.put, List.setIfInBounds_toArray, List.set_cons_zero, List.set_cons_succ]
      refine take_d 28 (i := 11) (v := .bool true) rfl (by kernel_rfl) (by kernel_rfl) (by kernel_rfl) (by kernel_rfl) (fun _ _ _ h => h) (Or.inl ⟨by kernel_rfl, fun w' hS => by go_simp⟩) hHeld ?_
      simp only [Act.put, List.setIfInBounds_toArray, List.set_cons_zero, List.set_cons_succ]
      refine take_d 29 (i := 12) (v := .bool true) rfl (by kernel_rfl) (by kernel_rfl) (by kernel_rfl) (by kernel_rfl) (fun _ _ _ h => h) (Or.inl ⟨by kernel_rfl, fun w' hS => by go_simp⟩) hHeld ?_
      simp only [Act.put, List.setIfInBounds_toArray, List.set_cons_zero, List.set_cons_succ]
      refine take_d 30 (i := 13) (v := V1) rfl (by kernel_rfl) (by kernel_rfl) (by kernel_rfl) (by kernel_rfl) (fun _ _ _ h => h) (Or.inl ⟨by kernel_rfl, fun w' hS => exec_cap_all _ rfl rfl (BA.out.below hS BA.out.lt) EV1.out⟩) hHeld ?_
      simp only [Act.put, List.setIfInBounds_toArray, List.set_cons_zero, List.set_cons_succ]
      refine take_d 32 (i := 15) (v := V1) rfl (by kernel_rfl) (by kernel_rfl) (by kernel_rfl) (by kernel_rfl) (fun _ _ _ h => h) (Or.inl ⟨by kernel_rfl, fun w' hS => exec_cap_all _ rfl rfl (BA.out.below hS BA.out.lt) EV1.out⟩) hHeld ?_
      simp only [Act.put, List.setIfInBounds_toArray, List.set_cons_zero, List.set_cons_succ]
      refine wpAnyH_ready (rs := [14]) (by kernel_rfl) (by simp) (AllReadyH.cons rfl (fun K hK => ?_) AllReadyH.nil)
      rw [if_pos (by kernel_rfl)]
      try go_simp
      refine (HX1.out _ (trivial)).mono ?_
      rintro e wz ⟨rfl, hb⟩
      have HX := hide (hHeld.trans (hb.mono hHeld.size))
      refine hK.out _ _ HX.out (fun hHeld => ?_)
      clear HX hb
      clear hK K
      try simp only [Act.put, List.setIfInBounds_toArray, List.set_cons_zero, List.set_cons_succ]
      refine wpAnyH_ready (rs := [16]) (by kernel_rfl) (by simp) (AllReadyH.cons rfl (fun K hK => ?_) AllReadyH.nil)
      rw [if_pos (by kernel_rfl)]
      try go_simp
      refine (HX2.out _ (trivial)).mono ?_
      rintro e wz ⟨rfl, hb⟩
      have HX := hide (hHeld.trans (hb.mono hHeld.size))
      refine hK.out _ _ HX.out (fun hHeld => ?_)
      clear HX hb
      clear hK K
      try simp only [Act.put, List.setIfInBounds_toArray, List.set_cons_zero, List.set_cons_succ]
      refine take_d 34 (i := 17) (v := .bool true) rfl (by kernel_rfl) (by kernel_rfl) (by kernel_rfl) (by kernel_rfl) (fun _ _ _ h => h) (Or.inl ⟨by kernel_rfl, fun w' hS => by go_simp⟩) hHeld ?_
      simp only [Act.put, List.setIfInBounds_toArray, List.set_cons_zero, List.set_cons_succ]
      refine take_d 35 (i := 18) (v := .bool true) rfl (by kernel_rfl) (by kernel_rfl) (by kernel_rfl) (by kernel_rfl) (fun _ _ _ h => h) (Or.inl ⟨by kernel_rfl, fun w' hS => by go_simp⟩) hHeld ?_
      simp only [Act.put, List.setIfInBounds_toArray, List.set_cons_zero, List.set_cons_succ]
      refine take_d 36 (i := 19) (v := .bool true) rfl (by kernel_rfl) (by kernel_rfl) (by kernel_rfl) (by kernel_rfl) (fun _ _ _ h => h) (Or.inl ⟨by kernel_rfl, fun w' hS => by go_simp⟩) hHeld ?_
      simp only [Act.put, List.setIfInBounds_toArray, List.set_cons_zero, List.set_cons_succ]
      refine take_d 37 (i := 20) (v := V1) rfl (by kernel_rfl) (by kernel_rfl) (by kernel_rfl) (by kernel_rfl) (fun _ _ _ h => h) (Or.inl ⟨by kernel_rfl, fun w' hS => exec_cap_all _ rfl rfl (BA.out.below hS BA.out.lt) EV1.out⟩) hHeld ?_
      simp only [Act.put, List.setIfInBounds_toArray, List.set_cons_zero, List.set_cons_succ]
      refine take_d 38 (i := 21) (v := V2) rfl (by kernel_rfl) (by kernel_rfl) (by kernel_rfl) (by kernel_rfl) (fun _ _ _ h => h) (Or.inl ⟨by kernel_rfl, fun w' hS => exec_cap_all _ rfl rfl (BB.out.below hS BB.out.lt) EV2.out⟩) hHeld ?_
      simp only [Act.put, List.setIfInBounds_toArray, List.set_cons_zero, List.set_cons_succ]
      refine take_d 40 (i := 23) (v := V1) rfl (by kernel_rfl) (by kernel_rfl) (by kernel_rfl) (by kernel_rfl) (fun _ _ _ h => h) (Or.inl ⟨by kernel_rfl, fun w' hS => exec_cap_all _ rfl rfl (BA.out.below hS BA.out.lt) EV1.out⟩) hHeld ?_
      simp only [Act.put, List.setIfInBounds_toArray, List.set_cons_zero, List.set_cons_succ]
      refine take_d 41 (i := 24) (v := V2) rfl (by kernel_rfl) (by kernel_rfl) (by kernel_rfl) (by kernel_rfl) (fun _ _ _ h => h) (Or.inl ⟨by kernel_rfl, fun w' hS => exec_cap_all _ rfl rfl (BB.out.below hS BB.out.lt) EV2.out⟩) hHeld ?_
      simp only [Act.put, List.setIfInBounds_toArray, List.set_cons_zero, List.set_cons_succ]
      refine wpAnyH_ready (rs := [22]) (by kernel_rfl) (by simp) (AllReadyH.cons rfl (fun K hK => ?_) AllReadyH.nil)
      rw [if_pos (by kernel_rfl)]
      try go_simp
      refine (HS1.out _ (⟨(OR1.out.below hHeld (Nat.le_refl _)).more hHeld.size, (OR2.out.below hHeld (Nat.le_refl _)).more hHeld.size⟩)).mono ?_
      rintro e wz ⟨rfl, hb⟩
      have HX := hide (hHeld.trans (hb.mono hHeld.size))
      refine hK.out _ _ HX.out (fun hHeld => ?_)
      clear HX hb
      clear hK K
      try simp only [Act.put, List.setIfInBounds_toArray, List.set_cons_zero, List.set_cons_succ]
      refine wpAnyH_ready (rs := [25]) (by kernel_rfl) (by simp) (AllReadyH.cons rfl (fun K hK => ?_) AllReadyH.nil)
      rw [if_pos (by kernel_rfl)]
      try go_simp
      refine (HS2.out _ (⟨(OR1.out.below hHeld (Nat.le_refl _)).more hHeld.size, (OR2.out.below hHeld (Nat.le_refl _)).more hHeld.size⟩)).mono ?_
      rintro e wz ⟨rfl, hb⟩
      have HX := hide (hHeld.trans (hb.mono hHeld.size))
      refine hK.out _ _ HX.out (fun hHeld => ?_)
      clear HX hb
      clear hK K
      try simp only [Act.put, List.setIfInBounds_toArray, List.set_cons_zero, List.set_cons_succ]
      refine take_d 43 (i := 26) (v := .bool true) rfl (by kernel_rfl) (by kernel_rfl) (by kernel_rfl) (by kernel_rfl) (fun _ _ _ h => h) (Or.inl ⟨by kernel_rfl, fun w' hS => by go_simp⟩) hHeld ?_
      simp only [Act.put, List.setIfInBounds_toArray, List.set_cons_zero, List.set_cons_succ]
      refine take_d 44 (i := 27) (v := .bool true) rfl (by kernel_rfl) (by kernel_rfl) (by kernel_rfl) (by kernel_rfl) (fun _ _ _ h => h) (Or.inl ⟨by kernel_rfl, fun w' hS => by go_simp⟩) hHeld ?_
      simp only [Act.put, List.setIfInBounds_toArray, List.set_cons_zero, List.set_cons_succ]
      refine take_d 45 (i := 28) (v := .bool true) rfl (by kernel_rfl) (by kernel_rfl) (by kernel_rfl) (by kernel_rfl) (fun _ _ _ h => h) (Or.inl ⟨by kernel_rfl, fun w' hS => by go_simp⟩) hHeld ?_
      simp only [Act.put, List.setIfInBounds_toArray, List.set_cons_zero, List.set_cons_succ]
      refine take_d 46 (i := 29) (v := V2) rfl (by kernel_rfl) (by kernel_rfl) (by kernel_rfl) (by kernel_rfl) (fun _ _ _ h => h) (Or.inl ⟨by kernel_rfl, fun w' hS => exec_cap_all _ rfl rfl (BB.out.below hS BB.out.lt) EV2.out⟩) hHeld ?_
      simp only [Act.put, List.setIfInBounds_toArray, List.set_cons_zero, List.set_cons_succ]
      refine wpAnyH_ready (rs := [30]) (by kernel_rfl) (by simp) (AllReadyH.cons rfl (fun K hK => ?_) AllReadyH.nil)
      rw [if_pos (by kernel_rfl)]
      try go_simp
      refine (HRT.out _ ((OR2.out.below hHeld (Nat.le_refl _)).more hHeld.size)).mono ?_
      rintro e wz ⟨lr, rfl, hor, hb⟩
      have HX := hide (hHeld.trans (hb.mono hHeld.size))
      have HCR := hide (show CapV RR lr from ⟨HWR.out.keyL, HWR.out.fpL, Bs.len (show Bs _ _ lr RR.lit from Rd.of_own hor)⟩)
      clear hor
      refine hK.out _ _ HX.out (fun hHeld => ?_)
      clear HX hb
      clear hK K
      try simp only [Act.put, List.setIfInBounds_toArray, List.set_cons_zero, List.set_cons_succ]
      refine wpAnyH_ready (rs := [31]) (by kernel_rfl) (by simp) (AllReadyH.cons rfl (fun K hK => ?_) AllReadyH.nil)
      rw [if_pos (by kernel_rfl)]
      try go_simp
      refine (Valid_any RR lr _ HCR.out).mono ?_
      rintro e wz ⟨rfl, hb⟩
      rw [decide_eq_true HVR.out]
      have HX := hide (hHeld.trans (hb.mono hHeld.size))
      refine hK.out _ _ HX.out (fun hHeld => ?_)
      clear HX hb
      clear hK K
      try simp only [Act.put, List.setIfInBounds_toArray, List.set_cons_zero, List.set_cons_succ]
      refine take_d 49 (i := 32) (v := .bool true) rfl (by kernel_rfl) (by kernel_rfl) (by kernel_rfl) (by kernel_rfl) (fun _ _ _ h => h) (Or.inl ⟨by kernel_rfl, fun w' hS => by go_simp⟩) hHeld ?_
      simp only [Act.put, List.setIfInBounds_toArray, List.set_cons_zero, List.set_cons_succ]
      refine take_d 50 (i := 33) (v := .bool true) rfl (by kernel_rfl) (by kernel_rfl) (by kernel_rfl) (by kernel_rfl) (fun _ _ _ h => h) (Or.inl ⟨by kernel_rfl, fun w' hS => by go_simp⟩) hHeld ?_
      simp only [Act.put, List.setIfInBounds_toArray, List.set_cons_zero, List.set_cons_succ]
      refine wpAnyH_ready (rs := [34]) (by kernel_rfl) (by simp) (AllReadyH.cons rfl (fun K hK => ?_) AllReadyH.nil)
      rw [if_pos (by kernel_rfl)]
      try go_simp
      refine (wakes13 _ ((HT.out.below hHeld (Nat.le_refl _)).more hHeld.size)).mono ?_
      rintro e wz ⟨rfl, hb⟩
      have HX := hide (hHeld.trans (hb.mono hHeld.size))
      refine hK.out _ _ HX.out (fun hHeld => ?_)
      clear HX hb
      clear hK K
      try simp only [Act.put, List.setIfInBounds_toArray, List.set_cons_zero, List.set_cons_succ]
      refine take_d 52 (i := 35) (v := .bool true) rfl (by kernel_rfl) (by kernel_rfl) (by kernel_rfl) (by kernel_rfl) (fun _ _ _ h => h) (Or.inl ⟨by kernel_rfl, fun w' hS => by go_simp⟩) hHeld ?_
      simp only [Act.put, List.setIfInBounds_toArray, List.set_cons_zero, List.set_cons_succ]
      refine take_d 6 (i := 36) (v := .bool true) rfl (by kernel_rfl) (by kernel_rfl) (by kernel_rfl) (by kernel_rfl) (fun _ _ _ h => h) (Or.inl ⟨by kernel_rfl, fun w' hS => by go_simp⟩) hHeld ?_
      simp only [Act.put, List.setIfInBounds_toArray, List.set_cons_zero, List.set_cons_succ]
      refine wpAnyH_done (by kernel_rfl) ?_ _
      have HWz := hide (HW.out.trans (hHeld.mono HW.out.size))
      go_wp2_with fail
      go_ret
      exact ⟨rfl, HWz.out⟩
set_option maxRecDepth 100000 in
theorem lifted (os : Os) (started : os.Started) (H : Type) (enc : TypeId × Value → H) :
    ReturnsInHanded {} Tryd.checked os 5 .any (fun w args => (Rows.capsValidsSpec.pre enc Tryd.prog Tryd.f5 [] false w args ∧ laidMetH Tryd.prog laidD w) ∧ sizedMet enc Tryd.prog Tryd.f5 (OpenSpec.ofChange Rows.capsValidsSpec) false w args)
      (Rows.capsValidsSpec.post enc Tryd.prog Tryd.f5 false true false false) := by
  refine returnsInHanded_of_change_and (C := Tryd.checked) (X := fun w _ => laidMetH Tryd.prog laidD w) (fun _ _ _ hh h => h.of_heap hh) own started (by kernel_rfl) Tryd.func5
    (ChangeSpec.witness_shaped (enc := enc) (C := Tryd.checked) (os := os) (X := fun w _ => laidMetH Tryd.prog laidD w) false (World.doorLaid Tryd.prog doorSteps os) #[capV CapD.none_ (.slice none 0 0), capV CapD.none_ (.slice none 0 0), .bool false] 8 rfl (World.shaped_of_RefB (by kernel_rfl) (by kernel_rfl)) (by kernel_rfl) (by kernel_rfl) (by kernel_rfl) (door_met os _)) ?_
  intro W base args ds gs before hval0 hW _ _ hL _
  have hT := tab_of hL
  have hval : ∀ (j : Nat) t v, Tryd.f5.params[j]? = some t → args[j]? = some v → Value.okWide Tryd.prog W .any base t v := hval0
  have hW' := hW
  obtain ⟨p, q, hA0, hV, rfl, hfz, hnd⟩ := hW
  have hA : DataW.TrodAll enc Tryd.prog W 0 (fun _ => true) true Tryd.f5.params.toList args.toList ds p := hA0
  rw [Tryd.params5] at hA hval
  obtain ⟨v0, vs0, d0, ds0, p0, q0, hargs, rfl, rfl, h0, r0⟩ := trodAll_cons hA
  obtain ⟨v1, vs1, d1, ds1, p1, q1, rfl, rfl, rfl, h1, r1⟩ := trodAll_cons r0
  obtain ⟨v2, vs2, d2, ds2, p2, q2, rfl, rfl, rfl, h2, r2⟩ := trodAll_cons r1
  obtain ⟨rfl, rfl, rfl⟩ := trodAll_nil r2
  obtain rfl : args = #[v0, v1, v2] := by cases args; simp_all
  obtain ⟨rfl, rfl⟩ := trodVars_none hV
  have k0 := h0
  have lt0 : ∀ x ∈ p0, x.block < W.heap.size := by obtain ⟨m, hm⟩ := k0; exact DataW.trod_lt m _ _ _ hm
  obtain ⟨z0, l0, rfl, w0, b0⟩ := read_cap (hval 0 28 v0 rfl rfl) h0
  have k1 := h1
  have lt1 : ∀ x ∈ p1, x.block < W.heap.size := by obtain ⟨m, hm⟩ := k1; exact DataW.trod_lt m _ _ _ hm
  obtain ⟨z1, l1, rfl, w1, b1⟩ := read_cap (hval 1 28 v1 rfl rfl) h1
  obtain ⟨a2, rfl, rfl, rfl⟩ := open_bool Tryd.underlying4 (hval 2 4 v2 rfl rfl) h2
  clear hA0 hval0
  refine (walk W hT z0 l0 w0 b0 z1 l1 w1 b1 a2).mono fun e W' ⟨he, bel⟩ => ?_
  subst he
  exact ⟨_, rfl, _, _, _, [], _, [], hW', trodAll_mk1 (shut_bool Tryd.underlying4 _), (trodAll_cons_mk (Below.trod laidOut (by kernel_rfl) (of_decide_eq_true (by kernel_rfl)) k0 bel lt0) (trodAll_cons_mk (Below.trod laidOut (by kernel_rfl) (of_decide_eq_true (by kernel_rfl)) k1 bel lt1) (trodAll_cons_mk (shut_bool Tryd.underlying4 _) trodAll_mk0))), rfl, bel.frame _, fun h => by cases h⟩

theorem over : Rows.capsValidsRow.holds Tryd.pinned (OpenSpec.ofChange Rows.capsValidsSpec) :=
  OpenClaim.holds_of_wide 5 Tryd.f5 rfl rfl rfl rfl rfl rfl rfl ⟨rfl, rfl, rfl, rfl, rfl⟩ rfl rfl rfl rfl rfl (by kernel_rfl) Tryd.func5 (by kernel_rfl)
    (of_decide_eq_true (by kernel_rfl)) (by unfold Func.isWrapper; rw [if_neg (of_decide_eq_false (by kernel_rfl))]; exact ⟨rfl, rfl⟩)
    (fun os started H enc _ => lifted os started H enc)

theorem proved : Rows.CapsValidsCardSaid :=
  Claim7.holds_tied_plain_at .later [] Rows.capsValidsCard.laidKinds true Rows.capsValidsCard.stood.harness Rows.capsValidsCard.stood.looks
    over (fun _ h => by cases h) (by kernel_rfl) (fun _ h => by cases h) capsValids_row_tie rfl ⟨rfl, rfl⟩ (by kernel_rfl) rfl
    (fun f fn hf hfn => by
      obtain rfl : f = 5 := Option.some.inj ((show Tryd.prog.funcNamed "aumbry/aumbrylaw13.CapsValids" = some 5 by kernel_rfl).symm.trans hf) |>.symm
      obtain rfl : fn = Tryd.f5 := (Option.some.inj (Tryd.func5.symm.trans hfn)).symm
      exact ⟨by kernel_rfl, fun j t ht => by
        have ht' : Tryd.f5.params[j]? = some t := ht
        rw [Tryd.params5] at ht'
        have hm : t ∈ [28, 28, 4] := by simpa using Array.mem_of_getElem? ht'
        have hall : ([28, 28, 4].all fun u => !Tryd.prog.wantsStandIn u) = true := by kernel_rfl
        exact (show Tryd.prog.wantsStandIn t = false by simpa using List.all_eq_true.1 hall t hm)⟩)
    (by kernel_rfl)
end Go.Proofs.YtgjepahhbecljaaDoor.LawCapsValids
