/- The document's sameCap: are all fields one? No condition. -/
import Derived.Test.YthdjgebbjogmiaaDoorJoin12
import Derived.Test.YthdjgebbjogmiaaDoorJoin20
import Derived.Test.YthdjgebbjogmiaaDoorJoin17
set_option linter.unusedVariables false
set_option linter.unusedSimpArgs false
namespace Go.Proofs.YthdjgebbjogmiaaDoor
open Go Go.RowKit
set_option linter.unusedVariables false
set_option linter.unusedSimpArgs false
set_option maxRecDepth 100000
section
variable {ops : Array Oper} {rest : List Oper} {o : Oper} {a : Act} {w : World} {Q : Exit → Act → World → Prop}
theorem exec_to_string (x : Operand) (ho : o.op = .convert 26 9 x) (B : Nat) (v : Value) (xs : List Int) (hx : a.eval x = v) (hv : Bs w B v xs) : (execOp a.eval o).run Tryd.prog w = .ok (.value (.string (strOfNums xs))) w := by
  unfold execOp
  simp only [ho, hx, Sem.run_bind, run_to_string w B v xs hv, Result.andThen_ok, Sem.run_pure]
theorem exec_eql_strS (x y : Operand) (ho : o.op = .binOp .eql 9 x y 9) (s t : ByteArray) (hx : a.eval x = .string s) (hy : a.eval y = .string t) (q : Bool) (hq : (s.toList == t.toList) = q) : (execOp a.eval o).run Tryd.prog w = .ok (.value (.bool q)) w := by
  subst hq
  unfold execOp
  simp only [ho, hx, hy]
  go_simp
end

set_option maxHeartbeats 8000000 in
theorem same_capR (a b : CapD) (la lb : Value) (w : World) (a1 : a.key.length = 16) (a2 : a.fp.length = 32) (b1 : b.key.length = 16) (b2 : b.fp.length = 32) (ha : Bs w w.heap.size la a.lit) (hb : Bs w w.heap.size lb b.lit) (hab : Bytes a.lit) (hbb : Bytes b.lit) :
    Calls Tryd.prog 48 #[capV a la, capV b lb] w fun e w' => e = .returned (.bool (sameF a b)) ∧ Below w.heap.size w w' := by
  have HA1 := hide a1
  have HA2 := hide a2
  have HB1 := hide b1
  have HB2 := hide b2
  have H3 := hide ha.one
  have H4 := hide hb.one
  obtain ⟨q7, Q7⟩ : ∃ q, Hid (decide (a.lit = b.lit) = q) := ⟨_, hide rfl⟩
  have HLA := hide ha
  have HLB := hide hb
  have HQS := hide (name_eq hab hbb)
  clear a1 a2 b1 b2 ha hb hab hbb
  obtain ⟨VA, HVA⟩ : ∃ x, Hid (capV a la = x) := ⟨_, hide rfl⟩
  obtain ⟨VB, HVB⟩ : ∃ x, Hid (capV b lb = x) := ⟨_, hide rfl⟩
  rw [HVA.out, HVB.out]
  obtain ⟨q1, Q1⟩ : ∃ q, (a.kind == b.kind) = q := ⟨_, rfl⟩
  obtain ⟨q2, Q2⟩ : ∃ q, Hid (decide (a.key = b.key) = q) := ⟨_, hide rfl⟩
  obtain ⟨q3, Q3⟩ : ∃ q, Hid (decide (a.fp = b.fp) = q) := ⟨_, hide rfl⟩
  obtain ⟨q4, Q4⟩ : ∃ q, (a.K == b.K) = q := ⟨_, rfl⟩
  obtain ⟨q5, Q5⟩ : ∃ q, (a.N == b.N) = q := ⟨_, rfl⟩
  obtain ⟨q6, Q6⟩ : ∃ q, (a.S == b.S) = q := ⟨_, rfl⟩
  have HV := hide (show sameF a b = (q1 && (q2 && (q3 && (q4 && (q5 && (q6 && q7)))))) by rw [sameF, Q1, Q2.out, Q3.out, Q4, Q5, Q6, Q7.out])
  rw [Q7.out] at HQS
  go_enter Tryd.func48, Tryd.ntmps48
  go_upto_region 1 with (first
    | (refine wpList_cap_new _ rfl (HVA.out.symm) rfl HA1.out HA2.out H3.out ?_; intro w1 hb1 hw1 hs1; have BA := hide hb1; have HW := hide hw1; clear hb1 hw1)
    | (refine wpList_cap_new _ rfl (HVB.out.symm) rfl HB1.out HB2.out H4.out ?_; intro w2 hb2 hw2 hs2; rw [hs1] at hb2; have BB := hide hb2; replace BA := hide (BA.out.below hw2 BA.out.lt); replace HW := hide (HW.out.trans (hw2.mono (by omega))); clear hb2 hw2))
  go_wp2_with (first
    | go_skip
    | (refine wpList_cap_int _ rfl _ rfl rfl BA.out _ rfl ?_)
    | (refine wpList_cap_int _ rfl _ rfl rfl BB.out _ rfl ?_)
    | (refine wpList_cap_key _ rfl rfl rfl BA.out ?_)
    | (refine wpList_cap_key _ rfl rfl rfl BB.out ?_)
    | (refine wpList_cap_fp _ rfl rfl rfl BA.out ?_)
    | (refine wpList_cap_fp _ rfl rfl rfl BB.out ?_)
    | (refine wpList_cap_lit _ rfl rfl rfl BA.out ?_)
    | (refine wpList_cap_lit _ rfl rfl rfl BB.out ?_)
    | (refine wpList_eql_key _ _ _ rfl a.key b.key rfl rfl rfl HA1.out HB1.out _ Q2.out ?_)
    | (refine wpList_eql_hash _ _ _ rfl a.fp b.fp rfl rfl rfl HA2.out HB2.out _ Q3.out ?_)
    | (refine wpList_val_ rfl (exec_to_string _ rfl w.heap.size la a.lit rfl (HLA.out.below HW.out (Nat.le_refl _))) ?_)
    | (refine wpList_val_ rfl (exec_to_string _ rfl w.heap.size lb b.lit rfl (HLB.out.below HW.out (Nat.le_refl _))) ?_)
    | (refine wpList_val_ rfl (exec_eql_strS _ _ rfl _ _ rfl rfl q7 HQS.out) ?_))
  all_goals go_ret
  all_goals refine ⟨?_, HW.out⟩
  all_goals rw [HV.out]
  all_goals refine congrArg Ending.returned (congrArg Value.bool ?_)
  all_goals simp [*]
end Go.Proofs.YthdjgebbjogmiaaDoor
