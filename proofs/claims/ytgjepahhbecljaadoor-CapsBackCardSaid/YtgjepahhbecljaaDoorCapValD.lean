/- caps.Valid: none. No condition. -/
import Derived.Test.YtgjepahhbecljaaDoorCapVal
namespace Go.Proofs.YtgjepahhbecljaaDoor
open Go Go.RowKit
set_option linter.unusedVariables false

set_option maxHeartbeats 4000000 in
theorem Valid_none (c : CapD) (lit : Value) (w : World) (hc : CapV c lit) (hk : c.kind < 1 ∨ 9 < c.kind) :
    Calls Tryd.prog 21 #[capV c lit] w fun e w' => e = .returned (.bool (decide c.Valid)) ∧ Below w.heap.size w w' := by
  obtain ⟨h1, h2, A, k, rfl⟩ := hc
  obtain ⟨CV, HCV⟩ : ∃ x, Hid (capV c (.slice A c.lit.length k) = x) := ⟨_, hide rfl⟩
  rw [HCV.out]
  have H1 := hide h1
  have H2 := hide h2
  clear h1 h2
  obtain ⟨L, HL⟩ : ∃ L, Hid (c.lit.length = L) := ⟨_, hide rfl⟩
  rw [HL.out] at HCV
  have n1 : (c.kind == 1) = false := by rw [beq_eq_false_iff_ne]; omega
  have n2 : (c.kind == 2) = false := by rw [beq_eq_false_iff_ne]; omega
  have n3 : (c.kind == 3) = false := by rw [beq_eq_false_iff_ne]; omega
  have n4 : (c.kind == 4) = false := by rw [beq_eq_false_iff_ne]; omega
  have n5 : (c.kind == 5) = false := by rw [beq_eq_false_iff_ne]; omega
  have n6 : (c.kind == 6) = false := by rw [beq_eq_false_iff_ne]; omega
  have n7 : (c.kind == 7) = false := by rw [beq_eq_false_iff_ne]; omega
  have n8 : (c.kind == 8) = false := by rw [beq_eq_false_iff_ne]; omega
  have n9 : (c.kind == 9) = false := by rw [beq_eq_false_iff_ne]; omega
  have HV := hide (show decide c.Valid = false by
    rw [decide_eq_false_iff_not]
    unfold CapD.Valid
    omega)
  clear hk
  go_enter Tryd.func21, Tryd.ntmps21
  go_wp2_with (first
    | go_skip
    | (refine wpList_cap_new _ rfl (HCV.out.symm) rfl H1.out H2.out rfl ?_; intro w1 hb1 hw1 hs1; have HB := hide hb1; have HW := hide hw1; clear hb1 hw1)
    | (refine wpList_cap_int _ rfl _ rfl rfl HB.out _ rfl ?_)
    | (refine wpList_cap_lit _ rfl rfl rfl HB.out ?_))
  all_goals go_ret
  all_goals refine ⟨?_, HW.out⟩
  all_goals rw [HV.out]
  all_goals refine congrArg Ending.returned (congrArg Value.bool ?_)
  all_goals simp [*]
end Go.Proofs.YtgjepahhbecljaaDoor
