/- bytes.Equal; caps.Same and aumbrykeep.Cap: are all fields one? Condition: at most 1000 bytes in a literal. -/
import Derived.Test.YtgjepahhbecljaaDoorCapFast
import Derived.Test.YtgjepahhbecljaaDoorStr
import Derived.Test.YtgjepahhbecljaaDoorKeep
import Derived.Test.YtgjepahhbecljaaDoorBy32
namespace Go.Proofs.YtgjepahhbecljaaDoor
open Go Go.RowKit
set_option linter.unusedVariables false
set_option maxRecDepth 100000

set_option maxHeartbeats 1000000 in
theorem equal_bytes (va vb : Value) (xs ys : List Int) (w : World) (B : Nat) (ha : Bs w B va xs) (hb : Bs w B vb ys) (hxa : Bytes xs) (hyb : Bytes ys) :
    Calls Tryd.prog 60 #[va, vb] w fun e w' => e = .returned (.bool (decide (xs = ys))) ∧ Below w.heap.size w w' := by
  have HA := hide ha
  have HB := hide hb
  have HI := hide (strOf_inj hxa hyb)
  clear ha hb hxa hyb
  obtain ⟨X, HX⟩ : ∃ s, Hid (strOfNums xs = s) := ⟨_, hide rfl⟩
  obtain ⟨Y, HY⟩ : ∃ s, Hid (strOfNums ys = s) := ⟨_, hide rfl⟩
  rw [HX.out, HY.out] at HI
  have HBe := hide (Below.refl w.heap.size w)
  have HQ := hide (show (X.toList == Y.toList) = decide (xs = ys) by
    by_cases h : X = Y
    · rw [decide_eq_true (HI.out.1 h), h]; simp
    · rw [str_ne h, decide_eq_false (fun e => h (HI.out.2 e))])
  go_enter Tryd.func60, Tryd.ntmps60
  go_wp2_with (first
    | (refine wpList_to_string rfl (.tmp 5) rfl B va xs rfl HA.out ?_; rw [HX.out])
    | (refine wpList_to_string rfl (.tmp 7) rfl B vb ys rfl HB.out ?_; rw [HY.out]))
  all_goals go_ret
  all_goals exact ⟨by rw [← HQ.out]; rfl, HBe.out⟩

/-- Are all fields one? -/
def sameF (a b : CapD) : Bool := (a.kind == b.kind) && (decide (a.key = b.key) && (decide (a.fp = b.fp) && ((a.K == b.K) && ((a.N == b.N) && ((a.S == b.S) && decide (a.lit = b.lit))))))
theorem sameF_iff (a b : CapD) : sameF a b = true ↔ a = b := by
  obtain ⟨a1, a2, a3, a4, a5, a6, a7⟩ := a
  obtain ⟨b1, b2, b3, b4, b5, b6, b7⟩ := b
  simp [sameF]
theorem sameF_self (a : CapD) : sameF a a = true := (sameF_iff a a).2 rfl

set_option maxHeartbeats 8000000 in
theorem same_caps (a b : CapD) (la lb : Value) (w : World) (a1 : a.key.length = 16) (a2 : a.fp.length = 32) (b1 : b.key.length = 16) (b2 : b.fp.length = 32) (ha : Bs w w.heap.size la a.lit) (hb : Bs w w.heap.size lb b.lit) (hab : Bytes a.lit) (hbb : Bytes b.lit) :
    Calls Tryd.prog 19 #[capV a la, capV b lb] w fun e w' => e = .returned (.bool (sameF a b)) ∧ Below w.heap.size w w' := by
  have HA1 := hide a1
  have HA2 := hide a2
  have HB1 := hide b1
  have HB2 := hide b2
  have H3 := hide ha.one
  have H4 := hide hb.one
  obtain ⟨q7, Q7⟩ : ∃ q, Hid (decide (a.lit = b.lit) = q) := ⟨_, hide rfl⟩
  have HC := hide (fun (w' : World) (hw : Below w.heap.size w w') => equal_bytes la lb a.lit b.lit w' w.heap.size (ha.below hw (Nat.le_refl _)) (hb.below hw (Nat.le_refl _)) hab hbb)
  clear a1 a2 b1 b2 ha hb hab hbb
  obtain ⟨VA, HVA⟩ : ∃ x, Hid (capV a la = x) := ⟨_, hide rfl⟩
  obtain ⟨VB, HVB⟩ : ∃ x, Hid (capV b lb = x) := ⟨_, hide rfl⟩
  rw [HVA.out, HVB.out]
  obtain ⟨q1, Q1⟩ : ∃ q, (a.kind == b.kind) = q := ⟨_, rfl⟩
  obtain ⟨q2, Q2⟩ : ∃ q, Hid (decide (a.key = b.key) = q) := ⟨_, hide rfl⟩
  obtain ⟨q3, Q3⟩ : ∃ q, Hid (decide (a.fp = b.fp) = q) := ⟨_, hide rfl⟩
  obtain ⟨q4, Q4⟩ : ∃ q, (a.K == b.K) = q := ⟨_, rfl⟩
  obtain ⟨q5, Q5⟩ : ∃ q, (a.N == b.N) = q := ⟨_, rfl⟩
  obtain ⟨q6, Q6⟩ : ∃ q, (a.S == b.S) = q := ⟨_, rfl⟩
  have HV := hide (show sameF a b = (q1 && (q2 && (q3 && (q4 && (q5 && (q6 && q7)))))) by rw [sameF, Q1, Q2.out, Q3.out, Q4, Q5, Q6, Q7.out])
  rw [Q7.out] at HC
  go_enter Tryd.func19, Tryd.ntmps19
  go_upto_region 1 with (first
    | (refine wpList_cap_new _ rfl (HVA.out.symm) rfl HA1.out HA2.out H3.out ?_; intro w1 hb1 hw1 hs1; have BA := hide hb1; have HW := hide hw1; clear hb1 hw1)
    | (refine wpList_cap_new _ rfl (HVB.out.symm) rfl HB1.out HB2.out H4.out ?_; intro w2 hb2 hw2 hs2; rw [hs1] at hb2; have BB := hide hb2; replace BA := hide (BA.out.below hw2 BA.out.lt); replace HW := hide (HW.out.trans (hw2.mono (by omega))); clear hb2 hw2))
  generalize hg1 : w.heap.size + 1 = g1 at BB ⊢
  generalize hg0 : w.heap.size = g0 at BA ⊢
  have G0 := hide hg0
  have G1 := hide hg1
  clear hg0 hg1
  go_wp2_with (first
    | go_skip
    | (refine wpList_cap_int _ rfl _ rfl rfl BA.out _ rfl ?_)
    | (refine wpList_cap_int _ rfl _ rfl rfl BB.out _ rfl ?_)
    | (refine wpList_cap_key _ rfl rfl rfl BA.out ?_)
    | (refine wpList_cap_key _ rfl rfl rfl BB.out ?_)
    | (refine wpList_cap_fp _ rfl rfl rfl BA.out ?_)
    | (refine wpList_cap_fp _ rfl rfl rfl BB.out ?_)
    | (refine wpList_cap_lit _ rfl rfl rfl BA.out ?_)
    | (refine wpList_cap_lit _ rfl rfl rfl BB.out ?_)
    | (refine wpList_eql_key _ _ _ rfl a.key b.key rfl rfl rfl HA1.out HB1.out _ Q2.out ?_)
    | (refine wpList_eql_hash _ _ _ rfl a.fp b.fp rfl rfl rfl HA2.out HB2.out _ Q3.out ?_)
    | (go_at_call 60; refine (HC.out w2 HW.out).mono ?_; rintro e w3 ⟨rfl, hb3⟩; replace HW := hide (HW.out.trans (hb3.mono HW.out.size)); clear hb3))
  all_goals go_ret
  all_goals refine ⟨?_, HW.out⟩
  all_goals rw [HV.out]
  all_goals refine congrArg Ending.returned (congrArg Value.bool ?_)
  all_goals simp [*]

set_option maxHeartbeats 8000000 in
theorem same_cap (a b : CapD) (la lb : Value) (w : World) (a1 : a.key.length = 16) (a2 : a.fp.length = 32) (b1 : b.key.length = 16) (b2 : b.fp.length = 32) (ha : Bs w w.heap.size la a.lit) (hb : Bs w w.heap.size lb b.lit) (hab : Bytes a.lit) (hbb : Bytes b.lit) :
    Calls Tryd.prog 27 #[capV a la, capV b lb] w fun e w' => e = .returned (.bool (sameF a b)) ∧ Below w.heap.size w w' := by
  have HA1 := hide a1
  have HA2 := hide a2
  have HB1 := hide b1
  have HB2 := hide b2
  have H3 := hide ha.one
  have H4 := hide hb.one
  obtain ⟨q7, Q7⟩ : ∃ q, Hid (decide (a.lit = b.lit) = q) := ⟨_, hide rfl⟩
  have HC := hide (fun (w' : World) (hw : Below w.heap.size w w') => same_bytes la lb a.lit b.lit w' w.heap.size (ha.below hw (Nat.le_refl _)) (hb.below hw (Nat.le_refl _)) hw.size)
  clear a1 a2 b1 b2 ha hb hab hbb
  obtain ⟨VA, HVA⟩ : ∃ x, Hid (capV a la = x) := ⟨_, hide rfl⟩
  obtain ⟨VB, HVB⟩ : ∃ x, Hid (capV b lb = x) := ⟨_, hide rfl⟩
  rw [HVA.out, HVB.out]
  obtain ⟨q1, Q1⟩ : ∃ q, (a.kind == b.kind) = q := ⟨_, rfl⟩
  obtain ⟨q2, Q2⟩ : ∃ q, Hid (decide (a.key = b.key) = q) := ⟨_, hide rfl⟩
  obtain ⟨q3, Q3⟩ : ∃ q, Hid (decide (a.fp = b.fp) = q) := ⟨_, hide rfl⟩
  obtain ⟨q4, Q4⟩ : ∃ q, (a.K == b.K) = q := ⟨_, rfl⟩
  obtain ⟨q5, Q5⟩ : ∃ q, (a.N == b.N) = q := ⟨_, rfl⟩
  obtain ⟨q6, Q6⟩ : ∃ q, (a.S == b.S) = q := ⟨_, rfl⟩
  have HV := hide (show sameF a b = (q1 && (q2 && (q3 && (q4 && (q5 && (q6 && q7)))))) by rw [sameF, Q1, Q2.out, Q3.out, Q4, Q5, Q6, Q7.out])
  rw [Q7.out] at HC
  go_enter Tryd.func27, Tryd.ntmps27
  go_upto_region 1 with (first
    | (refine wpList_cap_new _ rfl (HVA.out.symm) rfl HA1.out HA2.out H3.out ?_; intro w1 hb1 hw1 hs1; have BA := hide hb1; have HW := hide hw1; clear hb1 hw1)
    | (refine wpList_cap_new _ rfl (HVB.out.symm) rfl HB1.out HB2.out H4.out ?_; intro w2 hb2 hw2 hs2; rw [hs1] at hb2; have BB := hide hb2; replace BA := hide (BA.out.below hw2 BA.out.lt); replace HW := hide (HW.out.trans (hw2.mono (by omega))); clear hb2 hw2))
  generalize hg1 : w.heap.size + 1 = g1 at BB ⊢
  generalize hg0 : w.heap.size = g0 at BA ⊢
  have G0 := hide hg0
  have G1 := hide hg1
  clear hg0 hg1
  go_wp2_with (first
    | go_skip
    | (refine wpList_cap_int _ rfl _ rfl rfl BA.out _ rfl ?_)
    | (refine wpList_cap_int _ rfl _ rfl rfl BB.out _ rfl ?_)
    | (refine wpList_cap_key _ rfl rfl rfl BA.out ?_)
    | (refine wpList_cap_key _ rfl rfl rfl BB.out ?_)
    | (refine wpList_cap_fp _ rfl rfl rfl BA.out ?_)
    | (refine wpList_cap_fp _ rfl rfl rfl BB.out ?_)
    | (refine wpList_cap_lit _ rfl rfl rfl BA.out ?_)
    | (refine wpList_cap_lit _ rfl rfl rfl BB.out ?_)
    | (refine wpList_eql_key _ _ _ rfl a.key b.key rfl rfl rfl HA1.out HB1.out _ Q2.out ?_)
    | (refine wpList_eql_hash _ _ _ rfl a.fp b.fp rfl rfl rfl HA2.out HB2.out _ Q3.out ?_)
    | (go_at_call 62; refine (HC.out w2 HW.out).mono ?_; rintro e w3 ⟨rfl, hb3⟩; replace HW := hide (HW.out.trans (hb3.mono HW.out.size)); clear hb3))
  all_goals go_ret
  all_goals refine ⟨?_, HW.out⟩
  all_goals rw [HV.out]
  all_goals refine congrArg Ending.returned (congrArg Value.bool ?_)
  all_goals simp [*]
end Go.Proofs.YtgjepahhbecljaaDoor
