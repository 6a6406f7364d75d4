/- caps.Valid: a slot, a directory. No condition. -/
import Derived.Test.YtgjepahhbecljaaDoorCapVal
namespace Go.Proofs.YtgjepahhbecljaaDoor
open Go Go.RowKit
set_option linter.unusedVariables false

set_option maxHeartbeats 4000000 in
theorem Valid_slot (c : CapD) (lit : Value) (w : World) (hc : CapV c lit) (hk : c.kind = 4 ∨ c.kind = 5 ∨ c.kind = 6 ∨ c.kind = 7 ∨ c.kind = 8 ∨ c.kind = 9) :
    Calls Tryd.prog 21 #[capV c lit] w fun e w' => e = .returned (.bool (decide c.Valid)) ∧ Below w.heap.size w w' := by
  obtain ⟨h1, h2, A, k, rfl⟩ := hc
  obtain ⟨CV, HCV⟩ : ∃ x, Hid (capV c (.slice A c.lit.length k) = x) := ⟨_, hide rfl⟩
  rw [HCV.out]
  have H1 := hide h1
  have H2 := hide h2
  clear h1 h2
  obtain ⟨L, HL⟩ : ∃ L, Hid (c.lit.length = L) := ⟨_, hide rfl⟩
  rw [HL.out] at HCV
  obtain ⟨bK, eK⟩ : ∃ b, (c.K == 0) = b := ⟨_, rfl⟩
  have TK := hide eK
  obtain ⟨bN, eN⟩ : ∃ b, (c.N == 0) = b := ⟨_, rfl⟩
  have TN := hide eN
  obtain ⟨bS, eS⟩ : ∃ b, (c.S == 0) = b := ⟨_, rfl⟩
  have TS := hide eS
  obtain ⟨bL, eL⟩ : ∃ b, ((L : Int) == 0) = b := ⟨_, rfl⟩
  have TL := hide eL
  have HV := hide (show decide c.Valid = (bK && (bN && (bS && (bL)))) by
    rw [← TK.out, ← TN.out, ← TS.out, ← TL.out, ← HL.out, Bool.eq_iff_iff]
    simp only [Bool.and_eq_true, decide_eq_true_eq, beq_iff_eq]
    unfold CapD.Valid
    omega)
  rcases hk with hk | hk | hk | hk | hk | hk
  all_goals
    go_enter Tryd.func21, Tryd.ntmps21
    go_wp2_with (first
      | go_skip
      | (refine wpList_cap_new _ rfl (HCV.out.symm) rfl H1.out H2.out rfl ?_; intro w1 hb1 hw1 hs1; have HB := hide hb1; have HW := hide hw1; clear hb1 hw1)
      | (refine wpList_cap_int _ rfl _ rfl rfl HB.out _ rfl ?_)
      | (refine wpList_cap_lit _ rfl rfl rfl HB.out ?_))
  all_goals go_ret
  all_goals refine ⟨?_, HW.out⟩
  all_goals rw [HV.out]
  all_goals refine congrArg Ending.returned (congrArg Value.bool ?_)
  all_goals simp [*]
end Go.Proofs.YtgjepahhbecljaaDoor
