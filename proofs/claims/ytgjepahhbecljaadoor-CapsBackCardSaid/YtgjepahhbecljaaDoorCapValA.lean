/- caps.Valid: a literal. No condition. -/
import Derived.Test.YtgjepahhbecljaaDoorCapVal
namespace Go.Proofs.YtgjepahhbecljaaDoor
open Go Go.RowKit
set_option linter.unusedVariables false

set_option maxHeartbeats 4000000 in
theorem Valid_lit (c : CapD) (lit : Value) (w : World) (hc : CapV c lit) (hk : c.kind = 3) :
    Calls Tryd.prog 21 #[capV c lit] w fun e w' => e = .returned (.bool (decide c.Valid)) ∧ Below w.heap.size w w' := by
  obtain ⟨h1, h2, A, k, rfl⟩ := hc
  obtain ⟨CV, HCV⟩ : ∃ x, Hid (capV c (.slice A c.lit.length k) = x) := ⟨_, hide rfl⟩
  rw [HCV.out]
  have H1 := hide h1
  have H2 := hide h2
  clear h1 h2
  obtain ⟨L, HL⟩ : ∃ L, Hid (c.lit.length = L) := ⟨_, hide rfl⟩
  rw [HL.out] at HCV
  obtain ⟨bk, HBK⟩ : ∃ b, Hid (decide (c.key = zeros 16) = b) := ⟨_, hide rfl⟩
  obtain ⟨bf, HBF⟩ : ∃ b, Hid (decide (c.fp = zeros 32) = b) := ⟨_, hide rfl⟩
  obtain ⟨b64, e64⟩ : ∃ b, decide ((L : Int) ≤ 64) = b := ⟨_, rfl⟩
  have T64 := hide e64
  obtain ⟨bK, eK⟩ : ∃ b, (c.K == 0) = b := ⟨_, rfl⟩
  have TK := hide eK
  obtain ⟨bN, eN⟩ : ∃ b, (c.N == 0) = b := ⟨_, rfl⟩
  have TN := hide eN
  obtain ⟨bS, eS⟩ : ∃ b, (c.S == 0) = b := ⟨_, rfl⟩
  have TS := hide eS
  obtain ⟨bL, eL⟩ : ∃ b, ((L : Int) == 0) = b := ⟨_, rfl⟩
  have TL := hide eL
  have HV := hide (show decide c.Valid = (b64 && (bk && (bf && (bK && (bN && (bS)))))) by
    rw [← HBK.out, ← HBF.out, ← T64.out, ← TK.out, ← TN.out, ← TS.out, ← HL.out, Bool.eq_iff_iff]
    simp only [Bool.and_eq_true, decide_eq_true_eq, beq_iff_eq]
    unfold CapD.Valid
    constructor
    · rintro (h | h | h)
      · omega
      · obtain ⟨_, a1, a2, a3, a4, a5, a6⟩ := h
        exact ⟨by omega, a2, a3, a4, a5, a6⟩
      · omega
    · rintro ⟨a1, a2, a3, a4, a5, a6⟩
      exact .inr (.inl ⟨hk, by omega, a2, a3, a4, a5, a6⟩))
  go_enter Tryd.func21, Tryd.ntmps21
  go_wp2_with (first
    | go_skip
    | (refine wpList_cap_new _ rfl (HCV.out.symm) rfl H1.out H2.out rfl ?_; intro w1 hb1 hw1 hs1; have HB := hide hb1; have HW := hide hw1; clear hb1 hw1)
    | (refine wpList_cap_int _ rfl _ rfl rfl HB.out _ rfl ?_)
    | (refine wpList_cap_lit _ rfl rfl rfl HB.out ?_)
    | (refine wpList_cap_key _ rfl rfl rfl HB.out ?_)
    | (refine wpList_cap_fp _ rfl rfl rfl HB.out ?_)
    | (refine wpList_zero_key rfl rfl ?_)
    | (refine wpList_zero_hash rfl rfl ?_)
    | (refine wpList_eql_key _ _ _ rfl c.key (zeros 16) rfl rfl rfl H1.out rfl _ HBK.out ?_)
    | (refine wpList_eql_hash _ _ _ rfl c.fp (zeros 32) rfl rfl rfl H2.out rfl _ HBF.out ?_))
  all_goals go_ret
  all_goals refine ⟨?_, HW.out⟩
  all_goals rw [HV.out]
  all_goals refine congrArg Ending.returned (congrArg Value.bool ?_)
  all_goals simp [*]
end Go.Proofs.YtgjepahhbecljaaDoor
