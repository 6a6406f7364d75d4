/- Which capabilities may be. No condition.
caps.Valid: a literal. No condition.
caps.Valid: a file. No condition.
caps.Valid: a slot, a directory. No condition.
caps.Valid: none. No condition.
The reference's file, slot. No condition.
The reference's Valid: a literal. No condition.
The reference's Valid: a file. No condition.
The reference's Valid: a slot, a directory, none. No condition. -/
import Derived.Test.YthdjgebbjogmiaaDoorCap
import Derived.LoopIn
import Derived.Deep.DeepCutAuto
set_option linter.unusedVariables false
set_option linter.unusedSimpArgs false
namespace Go.Proofs.YthdjgebbjogmiaaDoor
open Go Go.RowKit
set_option maxRecDepth 100000
set_option linter.unusedVariables false

theorem Bs.one {w : World} {B : Nat} {v : Value} {xs : List Int} (h : Bs w B v xs) : v.oneCell' = true := by
 obtain ⟨A, c, rfl, _⟩ := h
 rfl
theorem Bs.len {w : World} {B : Nat} {v : Value} {xs : List Int} (h : Bs w B v xs) : ∃ A c, v = .slice A xs.length c := by
 obtain ⟨A, c, rfl, _⟩ := h
 exact ⟨A, c, rfl⟩

/-- A capability is handed over: its cells, and its bytes' length. -/
structure CapV (c : CapD) (lit : Value) : Prop where
 keyL : c.key.length = 16
 fpL : c.fp.length = 32
 litL : ∃ A k, lit = .slice A c.lit.length k

end Go.Proofs.YthdjgebbjogmiaaDoor

namespace Go.Proofs.YthdjgebbjogmiaaDoor
open Go Go.RowKit
set_option maxRecDepth 100000
set_option linter.unusedVariables false

set_option maxHeartbeats 4000000 in
theorem Valid_lit (c : CapD) (lit : Value) (w : World) (hc : CapV c lit) (hk : c.kind = 3) :
 Calls Tryd.prog 40 #[capV c lit] w fun e w' => e = .returned (.bool (decide c.Valid)) ∧ Below w.heap.size w w' := by
 obtain ⟨h1, h2, A, k, rfl⟩ := hc
 obtain ⟨CV, HCV⟩ : ∃ x, Hid (capV c (.slice A c.lit.length k) = x) := ⟨_, hide rfl⟩
 rw [HCV.out]
 have H1 := hide h1
 have H2 := hide h2
 clear h1 h2
 obtain ⟨L, HL⟩ : ∃ L, Hid (c.lit.length = L) := ⟨_, hide rfl⟩
 rw [HL.out] at HCV
 obtain ⟨bk, HBK⟩ : ∃ b, Hid (decide (c.key = zeros 16) = b) := ⟨_, hide rfl⟩
 obtain ⟨bf, HBF⟩ : ∃ b, Hid (decide (c.fp = zeros 32) = b) := ⟨_, hide rfl⟩
 obtain ⟨b64, e64⟩ : ∃ b, decide ((L : Int) ≤ 64) = b := ⟨_, rfl⟩
 have T64 := hide e64
 obtain ⟨bK, eK⟩ : ∃ b, (c.K == 0) = b := ⟨_, rfl⟩
 have TK := hide eK
 obtain ⟨bN, eN⟩ : ∃ b, (c.N == 0) = b := ⟨_, rfl⟩
 have TN := hide eN
 obtain ⟨bS, eS⟩ : ∃ b, (c.S == 0) = b := ⟨_, rfl⟩
 have TS := hide eS
 obtain ⟨bL, eL⟩ : ∃ b, ((L : Int) == 0) = b := ⟨_, rfl⟩
 have TL := hide eL
 have HV := hide (show decide c.Valid = (b64 && (bk && (bf && (bK && (bN && (bS)))))) by
  rw [← HBK.out, ← HBF.out, ← T64.out, ← TK.out, ← TN.out, ← TS.out, ← HL.out, Bool.eq_iff_iff]
  simp only [Bool.and_eq_true, decide_eq_true_eq, beq_iff_eq]
  unfold CapD.Valid
  constructor
  · rintro (h | h | h)
    · omega
    · obtain ⟨_, a1, a2, a3, a4, a5, a6⟩ := h
      exact ⟨by omega, a2, a3, a4, a5, a6⟩
    · omega
  · rintro ⟨a1, a2, a3, a4, a5, a6⟩
    exact .inr (.inl ⟨hk, by omega, a2, a3, a4, a5, a6⟩))
 go_enter Tryd.func40, Tryd.ntmps40
 go_wp2_with (first
  | go_skip
  | (refine wpList_cap_new _ rfl (HCV.out.symm) rfl H1.out H2.out rfl ?_; intro w1 hb1 hw1 hs1; have HB := hide hb1; have HW := hide hw1; clear hb1 hw1)
  | (refine wpList_cap_int _ rfl _ rfl rfl HB.out _ rfl ?_)
  | (refine wpList_cap_lit _ rfl rfl rfl HB.out ?_)
  | (refine wpList_cap_key _ rfl rfl rfl HB.out ?_)
  | (refine wpList_cap_fp _ rfl rfl rfl HB.out ?_)
  | (refine wpList_zero_key rfl rfl ?_)
  | (refine wpList_zero_hash rfl rfl ?_)
  | (refine wpList_eql_key _ _ _ rfl c.key (zeros 16) rfl rfl rfl H1.out rfl _ HBK.out ?_)
  | (refine wpList_eql_hash _ _ _ rfl c.fp (zeros 32) rfl rfl rfl H2.out rfl _ HBF.out ?_))
 all_goals go_ret
 all_goals refine ⟨?_, HW.out⟩
 all_goals rw [HV.out]
 all_goals refine congrArg Ending.returned (congrArg Value.bool ?_)
 all_goals simp [*]
end Go.Proofs.YthdjgebbjogmiaaDoor

namespace Go.Proofs.YthdjgebbjogmiaaDoor
open Go Go.RowKit
set_option maxRecDepth 100000
set_option linter.unusedVariables false

set_option maxHeartbeats 4000000 in
theorem Valid_file (c : CapD) (lit : Value) (w : World) (hc : CapV c lit) (hk : c.kind = 1 ∨ c.kind = 2) :
 Calls Tryd.prog 40 #[capV c lit] w fun e w' => e = .returned (.bool (decide c.Valid)) ∧ Below w.heap.size w w' := by
 obtain ⟨h1, h2, A, k, rfl⟩ := hc
 obtain ⟨CV, HCV⟩ : ∃ x, Hid (capV c (.slice A c.lit.length k) = x) := ⟨_, hide rfl⟩
 rw [HCV.out]
 have H1 := hide h1
 have H2 := hide h2
 clear h1 h2
 obtain ⟨L, HL⟩ : ∃ L, Hid (c.lit.length = L) := ⟨_, hide rfl⟩
 rw [HL.out] at HCV
 obtain ⟨b1, e1⟩ : ∃ b, decide (1 ≤ c.K) = b := ⟨_, rfl⟩
 have T1 := hide e1
 obtain ⟨b2, e2⟩ : ∃ b, decide (c.K ≤ c.N) = b := ⟨_, rfl⟩
 have T2 := hide e2
 obtain ⟨b3, e3⟩ : ∃ b, decide (c.N ≤ 16) = b := ⟨_, rfl⟩
 have T3 := hide e3
 obtain ⟨b4, e4⟩ : ∃ b, decide (1 ≤ c.S) = b := ⟨_, rfl⟩
 have T4 := hide e4
 obtain ⟨b5, e5⟩ : ∃ b, decide (c.S ≤ 1024) = b := ⟨_, rfl⟩
 have T5 := hide e5
 obtain ⟨bL, eL⟩ : ∃ b, ((L : Int) == 0) = b := ⟨_, rfl⟩
 have TL := hide eL
 have HV := hide (show decide c.Valid = (b1 && (b2 && (b3 && (b4 && (b5 && (bL)))))) by
  rw [← T1.out, ← T2.out, ← T3.out, ← T4.out, ← T5.out, ← TL.out, ← HL.out, Bool.eq_iff_iff]
  simp only [Bool.and_eq_true, decide_eq_true_eq, beq_iff_eq]
  unfold CapD.Valid
  omega)
 rcases hk with hk | hk
 all_goals
  go_enter Tryd.func40, Tryd.ntmps40
  go_wp2_with (first
   | go_skip
   | (refine wpList_cap_new _ rfl (HCV.out.symm) rfl H1.out H2.out rfl ?_; intro w1 hb1 hw1 hs1; have HB := hide hb1; have HW := hide hw1; clear hb1 hw1)
   | (refine wpList_cap_int _ rfl _ rfl rfl HB.out _ rfl ?_)
   | (refine wpList_cap_lit _ rfl rfl rfl HB.out ?_))
 all_goals go_ret
 all_goals refine ⟨?_, HW.out⟩
 all_goals rw [HV.out]
 all_goals refine congrArg Ending.returned (congrArg Value.bool ?_)
 all_goals simp [*]
end Go.Proofs.YthdjgebbjogmiaaDoor

namespace Go.Proofs.YthdjgebbjogmiaaDoor
open Go Go.RowKit
set_option maxRecDepth 100000
set_option linter.unusedVariables false

set_option maxHeartbeats 4000000 in
theorem Valid_slot (c : CapD) (lit : Value) (w : World) (hc : CapV c lit) (hk : c.kind = 4 ∨ c.kind = 5 ∨ c.kind = 6 ∨ c.kind = 7 ∨ c.kind = 8 ∨ c.kind = 9) :
 Calls Tryd.prog 40 #[capV c lit] w fun e w' => e = .returned (.bool (decide c.Valid)) ∧ Below w.heap.size w w' := by
 obtain ⟨h1, h2, A, k, rfl⟩ := hc
 obtain ⟨CV, HCV⟩ : ∃ x, Hid (capV c (.slice A c.lit.length k) = x) := ⟨_, hide rfl⟩
 rw [HCV.out]
 have H1 := hide h1
 have H2 := hide h2
 clear h1 h2
 obtain ⟨L, HL⟩ : ∃ L, Hid (c.lit.length = L) := ⟨_, hide rfl⟩
 rw [HL.out] at HCV
 obtain ⟨bK, eK⟩ : ∃ b, (c.K == 0) = b := ⟨_, rfl⟩
 have TK := hide eK
 obtain ⟨bN, eN⟩ : ∃ b, (c.N == 0) = b := ⟨_, rfl⟩
 have TN := hide eN
 obtain ⟨bS, eS⟩ : ∃ b, (c.S == 0) = b := ⟨_, rfl⟩
 have TS := hide eS
 obtain ⟨bL, eL⟩ : ∃ b, ((L : Int) == 0) = b := ⟨_, rfl⟩
 have TL := hide eL
 have HV := hide (show decide c.Valid = (bK && (bN && (bS && (bL)))) by
  rw [← TK.out, ← TN.out, ← TS.out, ← TL.out, ← HL.out, Bool.eq_iff_iff]
  simp only [Bool.and_eq_true, decide_eq_true_eq, beq_iff_eq]
  unfold CapD.Valid
  omega)
 rcases hk with hk | hk | hk | hk | hk | hk
 all_goals
  go_enter Tryd.func40, Tryd.ntmps40
  go_wp2_with (first
   | go_skip
   | (refine wpList_cap_new _ rfl (HCV.out.symm) rfl H1.out H2.out rfl ?_; intro w1 hb1 hw1 hs1; have HB := hide hb1; have HW := hide hw1; clear hb1 hw1)
   | (refine wpList_cap_int _ rfl _ rfl rfl HB.out _ rfl ?_)
   | (refine wpList_cap_lit _ rfl rfl rfl HB.out ?_))
 all_goals go_ret
 all_goals refine ⟨?_, HW.out⟩
 all_goals rw [HV.out]
 all_goals refine congrArg Ending.returned (congrArg Value.bool ?_)
 all_goals simp [*]
end Go.Proofs.YthdjgebbjogmiaaDoor

namespace Go.Proofs.YthdjgebbjogmiaaDoor
open Go Go.RowKit
set_option maxRecDepth 100000
set_option linter.unusedVariables false

set_option maxHeartbeats 4000000 in
theorem Valid_none (c : CapD) (lit : Value) (w : World) (hc : CapV c lit) (hk : c.kind < 1 ∨ 9 < c.kind) :
 Calls Tryd.prog 40 #[capV c lit] w fun e w' => e = .returned (.bool (decide c.Valid)) ∧ Below w.heap.size w w' := by
 obtain ⟨h1, h2, A, k, rfl⟩ := hc
 obtain ⟨CV, HCV⟩ : ∃ x, Hid (capV c (.slice A c.lit.length k) = x) := ⟨_, hide rfl⟩
 rw [HCV.out]
 have H1 := hide h1
 have H2 := hide h2
 clear h1 h2
 obtain ⟨L, HL⟩ : ∃ L, Hid (c.lit.length = L) := ⟨_, hide rfl⟩
 rw [HL.out] at HCV
 have n1 : (c.kind == 1) = false := by rw [beq_eq_false_iff_ne]; omega
 have n2 : (c.kind == 2) = false := by rw [beq_eq_false_iff_ne]; omega
 have n3 : (c.kind == 3) = false := by rw [beq_eq_false_iff_ne]; omega
 have n4 : (c.kind == 4) = false := by rw [beq_eq_false_iff_ne]; omega
 have n5 : (c.kind == 5) = false := by rw [beq_eq_false_iff_ne]; omega
 have n6 : (c.kind == 6) = false := by rw [beq_eq_false_iff_ne]; omega
 have n7 : (c.kind == 7) = false := by rw [beq_eq_false_iff_ne]; omega
 have n8 : (c.kind == 8) = false := by rw [beq_eq_false_iff_ne]; omega
 have n9 : (c.kind == 9) = false := by rw [beq_eq_false_iff_ne]; omega
 have HV := hide (show decide c.Valid = false by
  rw [decide_eq_false_iff_not]
  unfold CapD.Valid
  omega)
 clear hk
 go_enter Tryd.func40, Tryd.ntmps40
 go_wp2_with (first
  | go_skip
  | (refine wpList_cap_new _ rfl (HCV.out.symm) rfl H1.out H2.out rfl ?_; intro w1 hb1 hw1 hs1; have HB := hide hb1; have HW := hide hw1; clear hb1 hw1)
  | (refine wpList_cap_int _ rfl _ rfl rfl HB.out _ rfl ?_)
  | (refine wpList_cap_lit _ rfl rfl rfl HB.out ?_))
 all_goals go_ret
 all_goals refine ⟨?_, HW.out⟩
 all_goals rw [HV.out]
 all_goals refine congrArg Ending.returned (congrArg Value.bool ?_)
 all_goals simp [*]
end Go.Proofs.YthdjgebbjogmiaaDoor

namespace Go.Proofs.YthdjgebbjogmiaaDoor
open Go Go.RowKit
set_option maxRecDepth 100000
set_option linter.unusedVariables false

set_option maxHeartbeats 1000000 in
theorem file_ref (c : CapD) (lit : Value) (w : World) (hc : CapV c lit) :
 Calls Tryd.prog 55 #[capV c lit] w fun e w' => e = .returned (.bool (decide (c.kind = 1 ∨ c.kind = 2))) ∧ Below w.heap.size w w' := by
 obtain ⟨h1, h2, A, k, rfl⟩ := hc
 obtain ⟨CV, HCV⟩ : ∃ x, Hid (capV c (.slice A c.lit.length k) = x) := ⟨_, hide rfl⟩
 rw [HCV.out]
 have H1 := hide h1
 have H2 := hide h2
 clear h1 h2
 obtain ⟨b1, e1⟩ : ∃ b, (c.kind == 1) = b := ⟨_, rfl⟩
 obtain ⟨b2, e2⟩ : ∃ b, (c.kind == 2) = b := ⟨_, rfl⟩
 have HV := hide (show decide (c.kind = 1 ∨ c.kind = 2) = (b1 || b2) by rw [← e1, ← e2, Bool.eq_iff_iff]; simp)
 go_enter Tryd.func55, Tryd.ntmps55
 go_wp2_with (first
  | go_skip
  | (refine wpList_cap_new _ rfl (HCV.out.symm) rfl H1.out H2.out rfl ?_; intro w1 hb1 hw1 hs1; have HB := hide hb1; have HW := hide hw1; clear hb1 hw1)
  | (refine wpList_cap_int _ rfl _ rfl rfl HB.out _ rfl ?_)
  | (refine wpList_cap_lit _ rfl rfl rfl HB.out ?_))
 all_goals go_ret
 all_goals refine ⟨?_, HW.out⟩
 all_goals rw [HV.out]
 all_goals refine congrArg Ending.returned (congrArg Value.bool ?_)
 all_goals simp [*]

set_option maxHeartbeats 1000000 in
theorem slot_ref (c : CapD) (lit : Value) (w : World) (hc : CapV c lit) :
 Calls Tryd.prog 56 #[capV c lit] w fun e w' => e = .returned (.bool (decide (4 ≤ c.kind ∧ c.kind ≤ 9))) ∧ Below w.heap.size w w' := by
 obtain ⟨h1, h2, A, k, rfl⟩ := hc
 obtain ⟨CV, HCV⟩ : ∃ x, Hid (capV c (.slice A c.lit.length k) = x) := ⟨_, hide rfl⟩
 rw [HCV.out]
 have H1 := hide h1
 have H2 := hide h2
 clear h1 h2
 obtain ⟨b1, e1⟩ : ∃ b, decide (4 ≤ c.kind) = b := ⟨_, rfl⟩
 obtain ⟨b2, e2⟩ : ∃ b, decide (c.kind ≤ 9) = b := ⟨_, rfl⟩
 have HV := hide (show decide (4 ≤ c.kind ∧ c.kind ≤ 9) = (b1 && b2) by rw [← e1, ← e2, Bool.eq_iff_iff]; simp)
 go_enter Tryd.func56, Tryd.ntmps56
 go_wp2_with (first
  | go_skip
  | (refine wpList_cap_new _ rfl (HCV.out.symm) rfl H1.out H2.out rfl ?_; intro w1 hb1 hw1 hs1; have HB := hide hb1; have HW := hide hw1; clear hb1 hw1)
  | (refine wpList_cap_int _ rfl _ rfl rfl HB.out _ rfl ?_)
  | (refine wpList_cap_lit _ rfl rfl rfl HB.out ?_))
 all_goals go_ret
 all_goals refine ⟨?_, HW.out⟩
 all_goals rw [HV.out]
 all_goals refine congrArg Ending.returned (congrArg Value.bool ?_)
 all_goals simp [*]
end Go.Proofs.YthdjgebbjogmiaaDoor

namespace Go.Proofs.YthdjgebbjogmiaaDoor
open Go Go.RowKit
set_option maxRecDepth 100000
set_option linter.unusedVariables false

set_option maxHeartbeats 4000000 in
theorem Valid_ref_lit (c : CapD) (lit : Value) (w : World) (hc : CapV c lit) (hk : c.kind = 3) :
 Calls Tryd.prog 34 #[capV c lit] w fun e w' => e = .returned (.bool (decide c.Valid)) ∧ Below w.heap.size w w' := by
 have HC := hide hc
 obtain ⟨h1, h2, A, k, rfl⟩ := hc
 obtain ⟨CV, HCV⟩ : ∃ x, Hid (capV c (.slice A c.lit.length k) = x) := ⟨_, hide rfl⟩
 have HFI := hide (fun w => file_ref c _ w HC.out)
 have HSL := hide (fun w => slot_ref c _ w HC.out)
 rw [HCV.out] at HFI HSL ⊢
 have H1 := hide h1
 have H2 := hide h2
 clear h1 h2
 obtain ⟨L, HL⟩ : ∃ L, Hid (c.lit.length = L) := ⟨_, hide rfl⟩
 rw [HL.out] at HCV
 obtain ⟨fi, HFB⟩ : ∃ b, Hid (decide (c.kind = 1 ∨ c.kind = 2) = b) := ⟨_, hide rfl⟩
 obtain ⟨sl, Tsl⟩ : ∃ b, Hid (decide (4 ≤ c.kind ∧ c.kind ≤ 9) = b) := ⟨_, hide rfl⟩
 rw [HFB.out] at HFI
 rw [Tsl.out] at HSL
 obtain ⟨nn, Tnn⟩ : ∃ b, Hid ((c.K == 0 && (c.N == 0 && c.S == 0)) = b) := ⟨_, hide rfl⟩
 obtain ⟨bk, HBK⟩ : ∃ b, Hid (decide (c.key = zeros 16) = b) := ⟨_, hide rfl⟩
 obtain ⟨bf, HBF⟩ : ∃ b, Hid (decide (c.fp = zeros 32) = b) := ⟨_, hide rfl⟩
 obtain rfl : fi = false := by rw [← HFB.out]; simp; omega
 obtain ⟨b64, e64⟩ : ∃ b, decide ((L : Int) ≤ 64) = b := ⟨_, rfl⟩
 have T64 := hide e64
 have HV := hide (show decide c.Valid = (nn && (bk && (bf && (b64)))) by
  rw [← HBK.out, ← HBF.out, ← Tnn.out, ← T64.out, ← HL.out, Bool.eq_iff_iff]
  simp only [Bool.and_eq_true, decide_eq_true_eq, beq_iff_eq]
  unfold CapD.Valid
  constructor
  · rintro (h | h | h)
    · omega
    · obtain ⟨_, a1, a2, a3, a4, a5, a6⟩ := h
      exact ⟨⟨a4, a5, a6⟩, a2, a3, by omega⟩
    · omega
  · rintro ⟨⟨a4, a5, a6⟩, a2, a3, a1⟩
    exact .inr (.inl ⟨hk, by omega, a2, a3, a4, a5, a6⟩))
 go_enter Tryd.func34, Tryd.ntmps34
 go_upto_region 1 with (first
  | go_skip
  | (refine wpList_cap_new _ rfl (HCV.out.symm) rfl H1.out H2.out rfl ?_; intro w1 hb1 hw1 hs1; have HB := hide hb1; have HW := hide hw1; clear hb1 hw1)
  | (refine wpList_cap_int _ rfl _ rfl rfl HB.out _ rfl ?_)
  | (refine wpList_cap_lit _ rfl rfl rfl HB.out ?_))
 go_cut [3] from 4 to 16 (fun v3 wx => v3 = .bool nn ∧ wx = w1)
 case first =>
  obtain ⟨bK, eK⟩ : ∃ b, (c.K == 0) = b := ⟨_, rfl⟩
  obtain ⟨bN, eN⟩ : ∃ b, (c.N == 0) = b := ⟨_, rfl⟩
  obtain ⟨bS, eS⟩ : ∃ b, (c.S == 0) = b := ⟨_, rfl⟩
  rw [eK, eN, eS] at Tnn
  go_wp2_with (first
  | go_skip
  | (refine wpList_cap_new _ rfl (HCV.out.symm) rfl H1.out H2.out rfl ?_; intro w1 hb1 hw1 hs1; have HB := hide hb1; have HW := hide hw1; clear hb1 hw1)
  | (refine wpList_cap_int _ rfl _ rfl rfl HB.out _ rfl ?_)
  | (refine wpList_cap_lit _ rfl rfl rfl HB.out ?_))
  all_goals go_meet
  all_goals refine ⟨?_, rfl⟩
  all_goals rw [← Tnn.out]
  all_goals refine congrArg Value.bool ?_
  all_goals simp [*]
 case rest =>
  obtain ⟨rfl, rfl⟩ := hcut

  go_wp2_with (first
  | go_skip
  | (refine wpList_cap_new _ rfl (HCV.out.symm) rfl H1.out H2.out rfl ?_; intro w1 hb1 hw1 hs1; have HB := hide hb1; have HW := hide hw1; clear hb1 hw1)
  | (refine wpList_cap_int _ rfl _ rfl rfl HB.out _ rfl ?_)
  | (refine wpList_cap_lit _ rfl rfl rfl HB.out ?_)
  | (refine wpList_cap_key _ rfl rfl rfl HB.out ?_)
  | (refine wpList_cap_fp _ rfl rfl rfl HB.out ?_)
  | (refine wpList_zero_key rfl rfl ?_)
  | (refine wpList_zero_hash rfl rfl ?_)
  | (refine wpList_eql_key _ _ _ rfl c.key (zeros 16) rfl rfl rfl H1.out rfl _ HBK.out ?_)
  | (refine wpList_eql_hash _ _ _ rfl c.fp (zeros 32) rfl rfl rfl H2.out rfl _ HBF.out ?_)
  | (refine wpList_cap_all _ rfl rfl rfl HB.out ?_; rw [HCV.out])
  | (go_at_call 55; refine (HFI.out _).mono ?_; rintro e w2 ⟨rfl, hb2⟩; have hs2 := hb2.size; replace HB := hide (HB.out.below hb2 HB.out.lt); replace HW := hide (HW.out.trans (hb2.mono (by omega))); clear hb2)
  | (go_at_call 56; refine (HSL.out _).mono ?_; rintro e w3 ⟨rfl, hb3⟩; have hs3 := hb3.size; replace HB := hide (HB.out.below hb3 HB.out.lt); replace HW := hide (HW.out.trans (hb3.mono (by omega))); clear hb3))
  all_goals go_ret
  all_goals refine ⟨?_, HW.out⟩
  all_goals rw [HV.out]
  all_goals refine congrArg Ending.returned (congrArg Value.bool ?_)
  all_goals simp [*]
end Go.Proofs.YthdjgebbjogmiaaDoor

namespace Go.Proofs.YthdjgebbjogmiaaDoor
open Go Go.RowKit
set_option maxRecDepth 100000
set_option linter.unusedVariables false

set_option maxHeartbeats 4000000 in
theorem Valid_ref_file (c : CapD) (lit : Value) (w : World) (hc : CapV c lit) (hk : c.kind = 1 ∨ c.kind = 2) :
 Calls Tryd.prog 34 #[capV c lit] w fun e w' => e = .returned (.bool (decide c.Valid)) ∧ Below w.heap.size w w' := by
 have HC := hide hc
 obtain ⟨h1, h2, A, k, rfl⟩ := hc
 obtain ⟨CV, HCV⟩ : ∃ x, Hid (capV c (.slice A c.lit.length k) = x) := ⟨_, hide rfl⟩
 have HFI := hide (fun w => file_ref c _ w HC.out)
 have HSL := hide (fun w => slot_ref c _ w HC.out)
 rw [HCV.out] at HFI HSL ⊢
 have H1 := hide h1
 have H2 := hide h2
 clear h1 h2
 obtain ⟨L, HL⟩ : ∃ L, Hid (c.lit.length = L) := ⟨_, hide rfl⟩
 rw [HL.out] at HCV
 obtain ⟨fi, HFB⟩ : ∃ b, Hid (decide (c.kind = 1 ∨ c.kind = 2) = b) := ⟨_, hide rfl⟩
 obtain ⟨sl, Tsl⟩ : ∃ b, Hid (decide (4 ≤ c.kind ∧ c.kind ≤ 9) = b) := ⟨_, hide rfl⟩
 rw [HFB.out] at HFI
 rw [Tsl.out] at HSL
 obtain ⟨nn, Tnn⟩ : ∃ b, Hid ((c.K == 0 && (c.N == 0 && c.S == 0)) = b) := ⟨_, hide rfl⟩
 obtain rfl : fi = true := by rw [← HFB.out]; simpa using hk
 obtain ⟨b1, e1⟩ : ∃ b, decide (1 ≤ c.K) = b := ⟨_, rfl⟩
 have T1 := hide e1
 obtain ⟨b2, e2⟩ : ∃ b, decide (c.K ≤ c.N) = b := ⟨_, rfl⟩
 have T2 := hide e2
 obtain ⟨b3, e3⟩ : ∃ b, decide (c.N ≤ 16) = b := ⟨_, rfl⟩
 have T3 := hide e3
 obtain ⟨b4, e4⟩ : ∃ b, decide (1 ≤ c.S) = b := ⟨_, rfl⟩
 have T4 := hide e4
 obtain ⟨b5, e5⟩ : ∃ b, decide (c.S ≤ 1024) = b := ⟨_, rfl⟩
 have T5 := hide e5
 obtain ⟨bL, eL⟩ : ∃ b, ((L : Int) == 0) = b := ⟨_, rfl⟩
 have TL := hide eL
 have HV := hide (show decide c.Valid = (b1 && (b2 && (b3 && (b4 && (b5 && (bL)))))) by
  rw [← T1.out, ← T2.out, ← T3.out, ← T4.out, ← T5.out, ← TL.out, ← HL.out, Bool.eq_iff_iff]
  simp only [Bool.and_eq_true, decide_eq_true_eq, beq_iff_eq]
  unfold CapD.Valid
  omega)
 go_enter Tryd.func34, Tryd.ntmps34
 go_upto_region 1 with (first
  | go_skip
  | (refine wpList_cap_new _ rfl (HCV.out.symm) rfl H1.out H2.out rfl ?_; intro w1 hb1 hw1 hs1; have HB := hide hb1; have HW := hide hw1; clear hb1 hw1)
  | (refine wpList_cap_int _ rfl _ rfl rfl HB.out _ rfl ?_)
  | (refine wpList_cap_lit _ rfl rfl rfl HB.out ?_))
 go_cut [3] from 4 to 16 (fun v3 wx => v3 = .bool nn ∧ wx = w1)
 case first =>
  obtain ⟨bK, eK⟩ : ∃ b, (c.K == 0) = b := ⟨_, rfl⟩
  obtain ⟨bN, eN⟩ : ∃ b, (c.N == 0) = b := ⟨_, rfl⟩
  obtain ⟨bS, eS⟩ : ∃ b, (c.S == 0) = b := ⟨_, rfl⟩
  rw [eK, eN, eS] at Tnn
  go_wp2_with (first
  | go_skip
  | (refine wpList_cap_new _ rfl (HCV.out.symm) rfl H1.out H2.out rfl ?_; intro w1 hb1 hw1 hs1; have HB := hide hb1; have HW := hide hw1; clear hb1 hw1)
  | (refine wpList_cap_int _ rfl _ rfl rfl HB.out _ rfl ?_)
  | (refine wpList_cap_lit _ rfl rfl rfl HB.out ?_))
  all_goals go_meet
  all_goals refine ⟨?_, rfl⟩
  all_goals rw [← Tnn.out]
  all_goals refine congrArg Value.bool ?_
  all_goals simp [*]
 case rest =>
  obtain ⟨rfl, rfl⟩ := hcut

  go_wp2_with (first
  | go_skip
  | (refine wpList_cap_new _ rfl (HCV.out.symm) rfl H1.out H2.out rfl ?_; intro w1 hb1 hw1 hs1; have HB := hide hb1; have HW := hide hw1; clear hb1 hw1)
  | (refine wpList_cap_int _ rfl _ rfl rfl HB.out _ rfl ?_)
  | (refine wpList_cap_lit _ rfl rfl rfl HB.out ?_)
  | (refine wpList_cap_all _ rfl rfl rfl HB.out ?_; rw [HCV.out])
  | (go_at_call 55; refine (HFI.out _).mono ?_; rintro e w2 ⟨rfl, hb2⟩; have hs2 := hb2.size; replace HB := hide (HB.out.below hb2 HB.out.lt); replace HW := hide (HW.out.trans (hb2.mono (by omega))); clear hb2)
  | (go_at_call 56; refine (HSL.out _).mono ?_; rintro e w3 ⟨rfl, hb3⟩; have hs3 := hb3.size; replace HB := hide (HB.out.below hb3 HB.out.lt); replace HW := hide (HW.out.trans (hb3.mono (by omega))); clear hb3))
  all_goals go_ret
  all_goals refine ⟨?_, HW.out⟩
  all_goals rw [HV.out]
  all_goals refine congrArg Ending.returned (congrArg Value.bool ?_)
  all_goals simp [*]
end Go.Proofs.YthdjgebbjogmiaaDoor

namespace Go.Proofs.YthdjgebbjogmiaaDoor
open Go Go.RowKit
set_option maxRecDepth 100000
set_option linter.unusedVariables false

set_option maxHeartbeats 4000000 in
theorem Valid_ref_slot (c : CapD) (lit : Value) (w : World) (hc : CapV c lit) (h1 : ¬ (c.kind = 1 ∨ c.kind = 2)) (h3 : ¬ c.kind = 3) :
 Calls Tryd.prog 34 #[capV c lit] w fun e w' => e = .returned (.bool (decide c.Valid)) ∧ Below w.heap.size w w' := by
 have HC := hide hc
 obtain ⟨h1, h2, A, k, rfl⟩ := hc
 obtain ⟨CV, HCV⟩ : ∃ x, Hid (capV c (.slice A c.lit.length k) = x) := ⟨_, hide rfl⟩
 have HFI := hide (fun w => file_ref c _ w HC.out)
 have HSL := hide (fun w => slot_ref c _ w HC.out)
 rw [HCV.out] at HFI HSL ⊢
 have H1 := hide h1
 have H2 := hide h2
 clear h1 h2
 obtain ⟨L, HL⟩ : ∃ L, Hid (c.lit.length = L) := ⟨_, hide rfl⟩
 rw [HL.out] at HCV
 obtain ⟨fi, HFB⟩ : ∃ b, Hid (decide (c.kind = 1 ∨ c.kind = 2) = b) := ⟨_, hide rfl⟩
 obtain ⟨sl, Tsl⟩ : ∃ b, Hid (decide (4 ≤ c.kind ∧ c.kind ≤ 9) = b) := ⟨_, hide rfl⟩
 rw [HFB.out] at HFI
 rw [Tsl.out] at HSL
 obtain ⟨nn, Tnn⟩ : ∃ b, Hid ((c.K == 0 && (c.N == 0 && c.S == 0)) = b) := ⟨_, hide rfl⟩
 obtain rfl : fi = false := by rw [← HFB.out]; simpa using h1
 have n3 : (c.kind == 3) = false := by rw [beq_eq_false_iff_ne]; exact h3
 obtain ⟨bL, eL⟩ : ∃ b, ((L : Int) == 0) = b := ⟨_, rfl⟩
 have TL := hide eL
 have HV := hide (show decide c.Valid = (sl && (nn && (bL))) by
  rw [← Tsl.out, ← Tnn.out, ← TL.out, ← HL.out, Bool.eq_iff_iff]
  simp only [Bool.and_eq_true, decide_eq_true_eq, beq_iff_eq]
  unfold CapD.Valid
  omega)
 go_enter Tryd.func34, Tryd.ntmps34
 go_upto_region 1 with (first
  | go_skip
  | (refine wpList_cap_new _ rfl (HCV.out.symm) rfl H1.out H2.out rfl ?_; intro w1 hb1 hw1 hs1; have HB := hide hb1; have HW := hide hw1; clear hb1 hw1)
  | (refine wpList_cap_int _ rfl _ rfl rfl HB.out _ rfl ?_)
  | (refine wpList_cap_lit _ rfl rfl rfl HB.out ?_))
 go_cut [3] from 4 to 16 (fun v3 wx => v3 = .bool nn ∧ wx = w1)
 case first =>
  obtain ⟨bK, eK⟩ : ∃ b, (c.K == 0) = b := ⟨_, rfl⟩
  obtain ⟨bN, eN⟩ : ∃ b, (c.N == 0) = b := ⟨_, rfl⟩
  obtain ⟨bS, eS⟩ : ∃ b, (c.S == 0) = b := ⟨_, rfl⟩
  rw [eK, eN, eS] at Tnn
  go_wp2_with (first
  | go_skip
  | (refine wpList_cap_new _ rfl (HCV.out.symm) rfl H1.out H2.out rfl ?_; intro w1 hb1 hw1 hs1; have HB := hide hb1; have HW := hide hw1; clear hb1 hw1)
  | (refine wpList_cap_int _ rfl _ rfl rfl HB.out _ rfl ?_)
  | (refine wpList_cap_lit _ rfl rfl rfl HB.out ?_))
  all_goals go_meet
  all_goals refine ⟨?_, rfl⟩
  all_goals rw [← Tnn.out]
  all_goals refine congrArg Value.bool ?_
  all_goals simp [*]
 case rest =>
  obtain ⟨rfl, rfl⟩ := hcut

  go_wp2_with (first
  | go_skip
  | (refine wpList_cap_new _ rfl (HCV.out.symm) rfl H1.out H2.out rfl ?_; intro w1 hb1 hw1 hs1; have HB := hide hb1; have HW := hide hw1; clear hb1 hw1)
  | (refine wpList_cap_int _ rfl _ rfl rfl HB.out _ rfl ?_)
  | (refine wpList_cap_lit _ rfl rfl rfl HB.out ?_)
  | (refine wpList_cap_all _ rfl rfl rfl HB.out ?_; rw [HCV.out])
  | (go_at_call 55; refine (HFI.out _).mono ?_; rintro e w2 ⟨rfl, hb2⟩; have hs2 := hb2.size; replace HB := hide (HB.out.below hb2 HB.out.lt); replace HW := hide (HW.out.trans (hb2.mono (by omega))); clear hb2)
  | (go_at_call 56; refine (HSL.out _).mono ?_; rintro e w3 ⟨rfl, hb3⟩; have hs3 := hb3.size; replace HB := hide (HB.out.below hb3 HB.out.lt); replace HW := hide (HW.out.trans (hb3.mono (by omega))); clear hb3))
  all_goals go_ret
  all_goals refine ⟨?_, HW.out⟩
  all_goals rw [HV.out]
  all_goals refine congrArg Ending.returned (congrArg Value.bool ?_)
  all_goals simp [*]
end Go.Proofs.YthdjgebbjogmiaaDoor
