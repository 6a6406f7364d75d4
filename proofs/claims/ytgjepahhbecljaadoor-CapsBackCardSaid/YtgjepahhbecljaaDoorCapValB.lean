/- caps.Valid: a file. No condition. -/
import Derived.Test.YtgjepahhbecljaaDoorCapVal
namespace Go.Proofs.YtgjepahhbecljaaDoor
open Go Go.RowKit
set_option linter.unusedVariables false

set_option maxHeartbeats 4000000 in
theorem Valid_file (c : CapD) (lit : Value) (w : World) (hc : CapV c lit) (hk : c.kind = 1 ∨ c.kind = 2) :
    Calls Tryd.prog 21 #[capV c lit] w fun e w' => e = .returned (.bool (decide c.Valid)) ∧ Below w.heap.size w w' := by
  obtain ⟨h1, h2, A, k, rfl⟩ := hc
  obtain ⟨CV, HCV⟩ : ∃ x, Hid (capV c (.slice A c.lit.length k) = x) := ⟨_, hide rfl⟩
  rw [HCV.out]
  have H1 := hide h1
  have H2 := hide h2
  clear h1 h2
  obtain ⟨L, HL⟩ : ∃ L, Hid (c.lit.length = L) := ⟨_, hide rfl⟩
  rw [HL.out] at HCV
  obtain ⟨b1, e1⟩ : ∃ b, decide (1 ≤ c.K) = b := ⟨_, rfl⟩
  have T1 := hide e1
  obtain ⟨b2, e2⟩ : ∃ b, decide (c.K ≤ c.N) = b := ⟨_, rfl⟩
  have T2 := hide e2
  obtain ⟨b3, e3⟩ : ∃ b, decide (c.N ≤ 16) = b := ⟨_, rfl⟩
  have T3 := hide e3
  obtain ⟨b4, e4⟩ : ∃ b, decide (1 ≤ c.S) = b := ⟨_, rfl⟩
  have T4 := hide e4
  obtain ⟨b5, e5⟩ : ∃ b, decide (c.S ≤ 1024) = b := ⟨_, rfl⟩
  have T5 := hide e5
  obtain ⟨bL, eL⟩ : ∃ b, ((L : Int) == 0) = b := ⟨_, rfl⟩
  have TL := hide eL
  have HV := hide (show decide c.Valid = (b1 && (b2 && (b3 && (b4 && (b5 && (bL)))))) by
    rw [← T1.out, ← T2.out, ← T3.out, ← T4.out, ← T5.out, ← TL.out, ← HL.out, Bool.eq_iff_iff]
    simp only [Bool.and_eq_true, decide_eq_true_eq, beq_iff_eq]
    unfold CapD.Valid
    omega)
  rcases hk with hk | hk
  all_goals
    go_enter Tryd.func21, Tryd.ntmps21
    go_wp2_with (first
      | go_skip
      | (refine wpList_cap_new _ rfl (HCV.out.symm) rfl H1.out H2.out rfl ?_; intro w1 hb1 hw1 hs1; have HB := hide hb1; have HW := hide hw1; clear hb1 hw1)
      | (refine wpList_cap_int _ rfl _ rfl rfl HB.out _ rfl ?_)
      | (refine wpList_cap_lit _ rfl rfl rfl HB.out ?_))
  all_goals go_ret
  all_goals refine ⟨?_, HW.out⟩
  all_goals rw [HV.out]
  all_goals refine congrArg Ending.returned (congrArg Value.bool ?_)
  all_goals simp [*]
end Go.Proofs.YtgjepahhbecljaaDoor
