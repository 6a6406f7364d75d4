/- The reference's file, slot. No condition. -/
import Derived.Test.YtgjepahhbecljaaDoorCapVal
namespace Go.Proofs.YtgjepahhbecljaaDoor
open Go Go.RowKit
set_option linter.unusedVariables false

set_option maxHeartbeats 1000000 in
theorem file_ref (c : CapD) (lit : Value) (w : World) (hc : CapV c lit) :
    Calls Tryd.prog 58 #[capV c lit] w fun e w' => e = .returned (.bool (decide (c.kind = 1 ∨ c.kind = 2))) ∧ Below w.heap.size w w' := by
  obtain ⟨h1, h2, A, k, rfl⟩ := hc
  obtain ⟨CV, HCV⟩ : ∃ x, Hid (capV c (.slice A c.lit.length k) = x) := ⟨_, hide rfl⟩
  rw [HCV.out]
  have H1 := hide h1
  have H2 := hide h2
  clear h1 h2
  obtain ⟨b1, e1⟩ : ∃ b, (c.kind == 1) = b := ⟨_, rfl⟩
  obtain ⟨b2, e2⟩ : ∃ b, (c.kind == 2) = b := ⟨_, rfl⟩
  have HV := hide (show decide (c.kind = 1 ∨ c.kind = 2) = (b1 || b2) by rw [← e1, ← e2, Bool.eq_iff_iff]; simp)
  go_enter Tryd.func58, Tryd.ntmps58
  go_wp2_with (first
    | go_skip
    | (refine wpList_cap_new _ rfl (HCV.out.symm) rfl H1.out H2.out rfl ?_; intro w1 hb1 hw1 hs1; have HB := hide hb1; have HW := hide hw1; clear hb1 hw1)
    | (refine wpList_cap_int _ rfl _ rfl rfl HB.out _ rfl ?_)
    | (refine wpList_cap_lit _ rfl rfl rfl HB.out ?_))
  all_goals go_ret
  all_goals refine ⟨?_, HW.out⟩
  all_goals rw [HV.out]
  all_goals refine congrArg Ending.returned (congrArg Value.bool ?_)
  all_goals simp [*]

set_option maxHeartbeats 1000000 in
theorem slot_ref (c : CapD) (lit : Value) (w : World) (hc : CapV c lit) :
    Calls Tryd.prog 61 #[capV c lit] w fun e w' => e = .returned (.bool (decide (4 ≤ c.kind ∧ c.kind ≤ 9))) ∧ Below w.heap.size w w' := by
  obtain ⟨h1, h2, A, k, rfl⟩ := hc
  obtain ⟨CV, HCV⟩ : ∃ x, Hid (capV c (.slice A c.lit.length k) = x) := ⟨_, hide rfl⟩
  rw [HCV.out]
  have H1 := hide h1
  have H2 := hide h2
  clear h1 h2
  obtain ⟨b1, e1⟩ : ∃ b, decide (4 ≤ c.kind) = b := ⟨_, rfl⟩
  obtain ⟨b2, e2⟩ : ∃ b, decide (c.kind ≤ 9) = b := ⟨_, rfl⟩
  have HV := hide (show decide (4 ≤ c.kind ∧ c.kind ≤ 9) = (b1 && b2) by rw [← e1, ← e2, Bool.eq_iff_iff]; simp)
  go_enter Tryd.func61, Tryd.ntmps61
  go_wp2_with (first
    | go_skip
    | (refine wpList_cap_new _ rfl (HCV.out.symm) rfl H1.out H2.out rfl ?_; intro w1 hb1 hw1 hs1; have HB := hide hb1; have HW := hide hw1; clear hb1 hw1)
    | (refine wpList_cap_int _ rfl _ rfl rfl HB.out _ rfl ?_)
    | (refine wpList_cap_lit _ rfl rfl rfl HB.out ?_))
  all_goals go_ret
  all_goals refine ⟨?_, HW.out⟩
  all_goals rw [HV.out]
  all_goals refine congrArg Ending.returned (congrArg Value.bool ?_)
  all_goals simp [*]
end Go.Proofs.YtgjepahhbecljaaDoor
