/- The document's ReadOnly: what may only read the same. No condition.
caps.Slot: a slot's capability, of a seed and a print. Condition: the table of powers of ten stands.
The document's Slot: a slot's capability, of a seed and a print. No condition.
What comes in: entries and slices of entries, as data. No condition. -/
import Derived.Test.YthdjgebbjogmiaaDoorCapRO
import Derived.Test.YthdjgebbjogmiaaDoorJoin22
import Derived.Test.YthdjgebbjogmiaaDoorJoin19
import Derived.Test.YthdjgebbjogmiaaDoorJoin6
import Derived.Test.YthdjgebbjogmiaaDoorJoin17
import Derived.Test.YthdjgebbjogmiaaDoorJoin3
import Derived.Deep.SlicePairs
set_option linter.unusedVariables false
set_option linter.unusedSimpArgs false
namespace Go.Proofs.YthdjgebbjogmiaaDoor
open Go Go.RowKit
set_option linter.unusedVariables false
set_option linter.unusedSimpArgs false
set_option maxRecDepth 100000
set_option maxHeartbeats 8000000
theorem ReadOnly_refR (c : CapD) (lit : Value) (w : World) (hwf : c.Wf) (hl : Bs w w.heap.size lit c.lit) (hn : c.lit.length ≤ 1000000) :
 Calls Tryd.prog 38 #[capV c lit] w fun e w' => ∃ l', e = .returned (.tuple #[capV (roF c) l', .int .i64 (roE c)]) ∧ RowB w' w.heap.size l' (roF c).lit ∧ Below w.heap.size w w' := by
 have hc := capV_of hwf.keyL hwf.fpL hl
 have H1 := hide hwf.keyL
 have H2 := hide hwf.fpL
 have H3 := hide hl.one
 have HL := hide hl
 have HLB := hide hwf.litB
 have HWF := hide hwf
 obtain ⟨NN, HNN⟩ : ∃ x, Hid (CapD.none_ = x) := ⟨_, hide rfl⟩
 have HN1 := hide (show NN.key.length = 16 by rw [← HNN.out]; rfl)
 have HN2 := hide (show NN.fp.length = 32 by rw [← HNN.out]; rfl)
 have HNL := hide (show NN.lit = [] by rw [← HNN.out]; rfl)
 obtain ⟨CV, HCV⟩ : ∃ x, Hid (capV c lit = x) := ⟨_, hide rfl⟩
 by_cases hr : readF c = true
 · have HRD := hide (fun w => by have := read_ref c lit w hc; rw [hr, HCV.out] at this; exact this)
   have HE := hide (show roE c = 0 by unfold roE; rw [if_pos hr])
   have hkd := valid_kind (readF_kind hr).1
   by_cases hw : writeF c = true
   · have HWR := hide (fun w => by have := write_ref c lit w hc; rw [hw, HCV.out] at this; exact this)
     obtain ⟨KR, HKR0⟩ : ∃ x, Hid (keyF tRead c.key = x) := ⟨_, hide rfl⟩
     have HKL := hide (show KR.length = 16 by rw [← HKR0.out]; exact keyF_len _ _)
     have HSHT := hide (show shortF (strB tRead) [c.key] = KR from HKR0.out)
     have HKB := hide hwf.keyB
     have HKLn := hide hwf.keyL
     obtain ⟨C1K, HC1⟩ : ∃ x, Hid (roF c = x) := ⟨_, hide rfl⟩
     have HC1E := hide (show { c with kind := c.kind + 1, key := KR } = C1K by rw [← HC1.out, ← HKR0.out]; unfold roF; rw [if_pos hr, if_pos hw])
     have HC1L := hide (show { C1K with lit := c.lit } = C1K by rw [← HC1E.out])
     have HCL := hide (show C1K.lit = c.lit by rw [← HC1E.out])
     rw [HC1.out, HE.out]
     clear hr hw hc hwf hl
     rw [HCV.out]
     go_enter Tryd.func38, Tryd.ntmps38
     obtain ⟨g, hg⟩ : ∃ n, w.heap.size = n := ⟨_, rfl⟩
     go_wp2_with (first
      | (refine wpList_cap_new _ rfl HCV.out.symm rfl H1.out H2.out H3.out ?_; intro w1 hb1 hw1 hs1; rw [hg] at hb1 ⊢; have HB := hide hb1; have HW := hide hw1; clear hb1 hw1)
      | (refine wpList_cap_zero rfl rfl ?_; rw [HNN.out]; intro w2 hb2 hw2 hs2; have hg2 : w1.heap.size = g + 1 := (by omega); rw [hg2] at hb2; try rw [hg2]; have HZ := hide hb2; replace HB := hide (HB.out.below hw2 HB.out.lt); replace HW := hide (HW.out.trans (hw2.mono HW.out.size)); clear hb2 hw2)
      | (refine wpList_cap_all _ rfl rfl rfl HB.out ?_; rw [HCV.out]))
     refine (HRD.out _).mono ?_
     rintro e w3 ⟨rfl, hb3⟩
     replace HB := hide (HB.out.below hb3 HB.out.lt)
     replace HZ := hide (HZ.out.below hb3 HZ.out.lt)
     replace HW := hide (HW.out.trans (hb3.mono HW.out.size))
     clear hb3
     go_wp2_with (refine wpList_cap_all _ rfl rfl rfl HB.out ?_; rw [HCV.out])
     refine (HWR.out _).mono ?_
     rintro e w3 ⟨rfl, hb3⟩
     replace HB := hide (HB.out.below hb3 HB.out.lt)
     replace HZ := hide (HZ.out.below hb3 HZ.out.lt)
     replace HW := hide (HW.out.trans (hb3.mono HW.out.size))
     clear hb3
     go_wp2_with (refine wpList_rows1 rfl _ rfl (.slice (some ⟨g, 1, none⟩) 16 16) rfl rfl ?_; intro wd hbd hwd; replace HB := hide (HB.out.below hwd HB.out.lt); have HRW := hide (rows_one hbd (HB.out.keyRow HB.out.lt)); replace HZ := hide (HZ.out.below hwd HZ.out.lt); replace HW := hide (HW.out.trans (hwd.mono HW.out.size)); clear hbd hwd)
     have hcall := Short_ref tRead _ [c.key] _ HRW.out (by intro x hx; simp at hx; subst hx; exact HKB.out) (by intro x hx; simp at hx; subst hx; have := HKLn.out; omega) (by simp) (by decide)
     rw [HSHT.out] at hcall
     refine hcall.mono ?_
     clear hcall
     rintro e w4 ⟨rfl, hb⟩
     replace HB := hide (HB.out.below hb HB.out.lt)
     replace HZ := hide (HZ.out.below hb HZ.out.lt)
     replace HW := hide (HW.out.trans (hb.mono HW.out.size))
     clear hb HRW
     go_wp2_with (first
      | (refine wpList_cap_putKey _ _ rfl rfl rfl HB.out KR rfl HKL.out ?_; intro w6 hb6 hg6 hs6; replace HB := hide hb6; replace HZ := hide (HZ.out.grown hg6 (by intro h; injection h with h; omega)); replace HW := hide (HW.out.grown hg6 HW.out.size (by intro k hk; simp at hk; omega)); clear hb6 hg6)
      | (refine wpList_cap_put _ _ rfl 0 rfl rfl HB.out (c.kind + 1) rfl { c with kind := c.kind + 1, key := KR } rfl ?_; intro w6 hb6 hg6 hs6; replace HB := hide (show CapB w6 g C1K lit from (by rw [← HC1E.out]; exact hb6)); replace HZ := hide (HZ.out.grown hg6 (by intro h; injection h with h; omega)); replace HW := hide (HW.out.grown hg6 HW.out.size (by intro k hk; simp at hk; omega)); clear hb6 hg6)
      | (refine wpList_cap_int _ rfl 0 rfl rfl HB.out c.kind rfl ?_)
      | (refine wpList_cap_lit _ rfl rfl rfl HB.out ?_)
      | (at_builtin; refine wpList_append_B rfl _ _ rfl (g + 2) (.slice none 0 0) [] rfl (RowB.nil_ _ _) w.heap.size lit c.lit rfl (HL.out.below HW.out (Nat.le_refl _)) HLB.out (by simp; omega) (by have := HZ.out.lt; omega) ?_; intro l5 w5 ho5 hg5; rw [List.nil_append] at ho5; have HO5 := hide ho5; have L5 := hide ho5.one; replace HB := hide (HB.out.grown hg5 (by simp [Value.ownBlock])); replace HZ := hide (HZ.out.grown hg5 (by simp [Value.ownBlock])); replace HW := hide (HW.out.grown hg5 HW.out.size (by intro k hk; simp [Value.ownBlock] at hk)); clear ho5 hg5)
      | (refine wpList_cap_putLit _ _ rfl rfl rfl HB.out l5 rfl L5.out c.lit ?_; intro w6 hb6 hg6 hs6; replace HB := hide (show CapB w6 g C1K l5 from (by rw [← HC1L.out]; exact hb6)); replace HZ := hide (HZ.out.grown hg6 (by intro h; injection h with h; omega)); replace HO5 := hide (RowB.off HO5.out hg6 (by omega)); replace HW := hide (HW.out.grown hg6 HW.out.size (by intro k hk; simp at hk; omega)); clear hb6 hg6)
      | (refine wpList_cap_all _ rfl rfl rfl HB.out ?_)
      | (refine wpList_cap_putAll _ _ rfl rfl rfl HZ.out C1K l5 rfl HB.out.keyL HB.out.fpL HB.out.one ?_; intro w7 hb7 hg7 hs7; replace HZ := hide hb7; replace HO5 := hide (RowB.off HO5.out hg7 (by omega)); replace HW := hide (HW.out.grown hg7 HW.out.size (by intro k hk; simp at hk; omega)); clear hb7 hg7))
     refine bodyPost_ret (results_cap_err rfl _ _ (g + 1) _ _ rfl HZ.out _ rfl) rfl ?_
     exact ⟨l5, rfl, by rw [HCL.out]; exact HO5.out.more (by omega), HW.out⟩
   · have HWR := hide (fun w => by have := write_ref c lit w hc; rw [Bool.not_eq_true _ |>.mp hw, HCV.out] at this; exact this)
     obtain ⟨C1, HC1⟩ : ∃ x, Hid (c = x) := ⟨_, hide rfl⟩
     have HC1E := hide (show roF c = C1 by rw [← HC1.out]; unfold roF; rw [if_pos hr, if_neg hw])
     have HC1L := hide (show { c with lit := c.lit } = C1 from HC1.out)
     have HCL := hide (show C1.lit = c.lit by rw [← HC1.out])
     rw [HC1E.out, HE.out]
     clear hr hw hc hwf hl
     rw [HCV.out]
     go_enter Tryd.func38, Tryd.ntmps38
     obtain ⟨g, hg⟩ : ∃ n, w.heap.size = n := ⟨_, rfl⟩
     go_wp2_with (first
      | (refine wpList_cap_new _ rfl HCV.out.symm rfl H1.out H2.out H3.out ?_; intro w1 hb1 hw1 hs1; rw [hg] at hb1 ⊢; have HB := hide hb1; have HW := hide hw1; clear hb1 hw1)
      | (refine wpList_cap_zero rfl rfl ?_; rw [HNN.out]; intro w2 hb2 hw2 hs2; have hg2 : w1.heap.size = g + 1 := (by omega); rw [hg2] at hb2; try rw [hg2]; have HZ := hide hb2; replace HB := hide (HB.out.below hw2 HB.out.lt); replace HW := hide (HW.out.trans (hw2.mono HW.out.size)); clear hb2 hw2)
      | (refine wpList_cap_all _ rfl rfl rfl HB.out ?_; rw [HCV.out]))
     refine (HRD.out _).mono ?_
     rintro e w3 ⟨rfl, hb3⟩
     replace HB := hide (HB.out.below hb3 HB.out.lt)
     replace HZ := hide (HZ.out.below hb3 HZ.out.lt)
     replace HW := hide (HW.out.trans (hb3.mono HW.out.size))
     clear hb3
     go_wp2_with (refine wpList_cap_all _ rfl rfl rfl HB.out ?_; rw [HCV.out])
     refine (HWR.out _).mono ?_
     rintro e w3 ⟨rfl, hb3⟩
     replace HB := hide (HB.out.below hb3 HB.out.lt)
     replace HZ := hide (HZ.out.below hb3 HZ.out.lt)
     replace HW := hide (HW.out.trans (hb3.mono HW.out.size))
     clear hb3
     go_wp2_with (first
      | (refine wpList_cap_lit _ rfl rfl rfl HB.out ?_)
      | (at_builtin; refine wpList_append_B rfl _ _ rfl (g + 2) (.slice none 0 0) [] rfl (RowB.nil_ _ _) w.heap.size lit c.lit rfl (HL.out.below HW.out (Nat.le_refl _)) HLB.out (by simp; omega) (by have := HZ.out.lt; omega) ?_; intro l5 w5 ho5 hg5; rw [List.nil_append] at ho5; have HO5 := hide ho5; have L5 := hide ho5.one; replace HB := hide (HB.out.grown hg5 (by simp [Value.ownBlock])); replace HZ := hide (HZ.out.grown hg5 (by simp [Value.ownBlock])); replace HW := hide (HW.out.grown hg5 HW.out.size (by intro k hk; simp [Value.ownBlock] at hk)); clear ho5 hg5)
      | (refine wpList_cap_putLit _ _ rfl rfl rfl HB.out l5 rfl L5.out c.lit ?_; intro w6 hb6 hg6 hs6; replace HB := hide (show CapB w6 g C1 l5 from (by rw [← HC1L.out]; exact hb6)); replace HZ := hide (HZ.out.grown hg6 (by intro h; injection h with h; omega)); replace HO5 := hide (RowB.off HO5.out hg6 (by omega)); replace HW := hide (HW.out.grown hg6 HW.out.size (by intro k hk; simp at hk; omega)); clear hb6 hg6)
      | (refine wpList_cap_all _ rfl rfl rfl HB.out ?_)
      | (refine wpList_cap_putAll _ _ rfl rfl rfl HZ.out C1 l5 rfl HB.out.keyL HB.out.fpL HB.out.one ?_; intro w7 hb7 hg7 hs7; replace HZ := hide hb7; replace HO5 := hide (RowB.off HO5.out hg7 (by omega)); replace HW := hide (HW.out.grown hg7 HW.out.size (by intro k hk; simp at hk; omega)); clear hb7 hg7))
     refine bodyPost_ret (results_cap_err rfl _ _ (g + 1) _ _ rfl HZ.out _ rfl) rfl ?_
     exact ⟨l5, rfl, by rw [HCL.out]; exact HO5.out.more (by omega), HW.out⟩
 · have HRD := hide (fun w => by have := read_ref c lit w hc; rw [Bool.not_eq_true _ |>.mp hr, HCV.out] at this; exact this)
   have HE := hide (show roE c = 11 by unfold roE; rw [if_neg hr])
   have HC1 := hide (show roF c = NN by rw [← HNN.out]; unfold roF; rw [if_neg hr])
   rw [HC1.out, HE.out]
   clear hr hc hwf hl
   rw [HCV.out]
   go_enter Tryd.func38, Tryd.ntmps38
   obtain ⟨g, hg⟩ : ∃ n, w.heap.size = n := ⟨_, rfl⟩
   go_wp2_with (first
    | (refine wpList_cap_new _ rfl HCV.out.symm rfl H1.out H2.out H3.out ?_; intro w1 hb1 hw1 hs1; rw [hg] at hb1 ⊢; have HB := hide hb1; have HW := hide hw1; clear hb1 hw1)
    | (refine wpList_cap_zero rfl rfl ?_; rw [HNN.out]; intro w2 hb2 hw2 hs2; have hg2 : w1.heap.size = g + 1 := (by omega); rw [hg2] at hb2; try rw [hg2]; have HZ := hide hb2; replace HB := hide (HB.out.below hw2 HB.out.lt); replace HW := hide (HW.out.trans (hw2.mono HW.out.size)); clear hb2 hw2)
    | (refine wpList_cap_all _ rfl rfl rfl HB.out ?_; rw [HCV.out]))
   refine (HRD.out _).mono ?_
   rintro e w3 ⟨rfl, hb3⟩
   replace HB := hide (HB.out.below hb3 HB.out.lt)
   replace HZ := hide (HZ.out.below hb3 HZ.out.lt)
   replace HW := hide (HW.out.trans (hb3.mono HW.out.size))
   clear hb3
   go_wp2_with (first
    | (refine wpList_none_cap rfl rfl ?_; rw [HNN.out])
    | (refine wpList_cap_putAll _ _ rfl rfl rfl HZ.out NN (.slice none 0 0) rfl HN1.out HN2.out rfl ?_; intro w6 hb6 hg6 hs6; replace HZ := hide hb6; replace HW := hide (HW.out.grown hg6 HW.out.size (by intro k hk; simp at hk; omega)); clear hb6 hg6))
   refine bodyPost_ret (results_cap_err rfl _ _ (g + 1) _ _ rfl HZ.out _ rfl) rfl ?_
   exact ⟨_, rfl, by rw [HNL.out]; exact RowB.nil_ _ _, HW.out⟩
theorem ReadOnly_ref (c : CapD) (lit : Value) (w : World) (hwf : c.Wf) (hl : Bs w w.heap.size lit c.lit) (hn : c.lit.length ≤ 1000000) :
 Calls Tryd.prog 38 #[capV c lit] w fun e w' => ∃ l', e = .returned (.tuple #[capV (roF c) l', .int .i64 (roE c)]) ∧ Bs w' w'.heap.size l' (roF c).lit ∧ Below w.heap.size w w' :=
 (ReadOnly_refR c lit w hwf hl hn).mono fun e w' ⟨l', h1, h2, h3⟩ => ⟨l', h1, h2.reads, h3⟩
end Go.Proofs.YthdjgebbjogmiaaDoor

namespace Go.Proofs.YthdjgebbjogmiaaDoor
open Go Go.RowKit
set_option linter.unusedVariables false
set_option linter.unusedSimpArgs false
set_option maxRecDepth 100000
set_option maxHeartbeats 8000000
theorem list16 (l : List Int) (h : l.length = 16) : ∃ a0 a1 a2 a3 a4 a5 a6 a7 a8 a9 a10 a11 a12 a13 a14 a15 : Int, l = [a0, a1, a2, a3, a4, a5, a6, a7, a8, a9, a10, a11, a12, a13, a14, a15] := by
 match l, h with
 | [a0, a1, a2, a3, a4, a5, a6, a7, a8, a9, a10, a11, a12, a13, a14, a15], _ => exact ⟨a0, a1, a2, a3, a4, a5, a6, a7, a8, a9, a10, a11, a12, a13, a14, a15, rfl⟩
theorem built_slot48 (a0 a1 a2 a3 a4 a5 a6 a7 a8 a9 a10 a11 a12 a13 a14 a15 b0 b1 b2 b3 b4 b5 b6 b7 b8 b9 b10 b11 b12 b13 b14 b15 c0 c1 c2 c3 c4 c5 c6 c7 c8 c9 c10 c11 c12 c13 c14 c15 : Int) : Tryd.prog.built 28 [(0, .int .i64 4), (1, .agg (u8s [a0, a1, a2, a3, a4, a5, a6, a7, a8, a9, a10, a11, a12, a13, a14, a15]).toArray), (2, .agg (u8s [b0, b1, b2, b3, b4, b5, b6, b7, b8, b9, b10, b11, b12, b13, b14, b15, c0, c1, c2, c3, c4, c5, c6, c7, c8, c9, c10, c11, c12, c13, c14, c15]).toArray)] = some (capCells ⟨4, [a0, a1, a2, a3, a4, a5, a6, a7, a8, a9, a10, a11, a12, a13, a14, a15], [b0, b1, b2, b3, b4, b5, b6, b7, b8, b9, b10, b11, b12, b13, b14, b15, c0, c1, c2, c3, c4, c5, c6, c7, c8, c9, c10, c11, c12, c13, c14, c15], 0, 0, 0, []⟩ (.slice none 0 0)).toArray := by kernel_rfl
theorem built_slot (k f : List Int) (hk : k.length = 16) (hf : f.length = 32) : Tryd.prog.built 28 [(0, .int .i64 4), (1, .agg (u8s k).toArray), (2, .agg (u8s f).toArray)] = some (capCells ⟨4, k, f, 0, 0, 0, []⟩ (.slice none 0 0)).toArray := by
 obtain ⟨a0, a1, a2, a3, a4, a5, a6, a7, a8, a9, a10, a11, a12, a13, a14, a15, rfl⟩ := list16 k hk
 have e : f = f.take 16 ++ f.drop 16 := (List.take_append_drop 16 f).symm
 obtain ⟨b0, b1, b2, b3, b4, b5, b6, b7, b8, b9, b10, b11, b12, b13, b14, b15, e1⟩ := list16 (f.take 16) (by rw [List.length_take, hf]; rfl)
 obtain ⟨c0, c1, c2, c3, c4, c5, c6, c7, c8, c9, c10, c11, c12, c13, c14, c15, e2⟩ := list16 (f.drop 16) (by rw [List.length_drop, hf])
 rw [e1, e2] at e
 subst e
 exact built_slot48 a0 a1 a2 a3 a4 a5 a6 a7 a8 a9 a10 a11 a12 a13 a14 a15 b0 b1 b2 b3 b4 b5 b6 b7 b8 b9 b10 b11 b12 b13 b14 b15 c0 c1 c2 c3 c4 c5 c6 c7 c8 c9 c10 c11 c12 c13 c14 c15
theorem exec_build_slot {o : Oper} {a : Act} {w : World} (x y : Operand) (ho : o.op = .build 28 #[(0, .const (.int .i64 4)), (1, x), (2, y)]) (k f : List Int) (hx : a.eval x = .agg (u8s k).toArray) (hy : a.eval y = .agg (u8s f).toArray) (hk : k.length = 16) (hf : f.length = 32) :
 (execOp a.eval o).run Tryd.prog w = .ok (.value (capV ⟨4, k, f, 0, 0, 0, []⟩ (.slice none 0 0))) w := by
 have hm : ((#[(0, .const (.int .i64 4)), (1, x), (2, y)] : Array (Nat × Operand)).map fun (i, x) => (i, a.eval x)).toList = [(0, .int .i64 4), (1, .agg (u8s k).toArray), (2, .agg (u8s f).toArray)] := by
  have hc : a.eval (.const (.int .i64 4)) = .int .i64 4 := rfl
  simp [hx, hy, hc]
 have hr := run_build (P := Tryd.prog) w 28 ((#[(0, .const (.int .i64 4)), (1, x), (2, y)] : Array (Nat × Operand)).map fun (i, x) => (i, a.eval x)) _ (by rw [hm]; exact built_slot k f hk hf)
 unfold execOp
 simp only [ho, Sem.run_bind, hr, Result.andThen_ok, Sem.run_pure]
 rfl
end Go.Proofs.YthdjgebbjogmiaaDoor

namespace Go.Proofs.YthdjgebbjogmiaaDoor
open Go Go.RowKit
set_option linter.unusedVariables false
set_option linter.unusedSimpArgs false
set_option maxRecDepth 100000
set_option maxHeartbeats 8000000
theorem Slot_ref (seed fp : List Int) (w : World) (h1 : seed.length = 16) (hb : Bytes seed) (h2 : fp.length = 32) :
 Calls Tryd.prog 11 #[.agg (u8s seed).toArray, .agg (u8s fp).toArray] w fun e w' => e = .returned (capV (slotF seed fp) (.slice none 0 0)) ∧ Below w.heap.size w w' := by
 have H1 := hide h1
 have H2 := hide h2
 obtain ⟨KR, HKR0⟩ : ∃ x, Hid (keyF tWrite seed = x) := ⟨_, hide rfl⟩
 have HKL := hide (show KR.length = 16 by rw [← HKR0.out]; exact keyF_len _ _)
 obtain ⟨KV, HKV⟩ : ∃ x, Hid (Value.agg (u8s seed).toArray = x) := ⟨_, hide rfl⟩
 obtain ⟨FV, HFV⟩ : ∃ x, Hid (Value.agg (u8s fp).toArray = x) := ⟨_, hide rfl⟩
 have HSW := hide (show shortF (strB tWrite) [seed] = KR from HKR0.out)
 have HSB := hide hb
 have HSF := hide (show slotF seed fp = ⟨4, KR, fp, 0, 0, 0, []⟩ by unfold slotF; rw [HKR0.out])
 rw [HSF.out, HKV.out, HFV.out]
 clear h1 hb h2
 go_enter Tryd.func11, Tryd.ntmps11
 obtain ⟨g, hg⟩ : ∃ n, w.heap.size = n := ⟨_, rfl⟩
 go_upto_region 1 with (first
  | (refine wpList_box_key _ rfl seed HKV.out.symm rfl ?_; intro w1 hb1 hw1 hs1; rw [hg] at hb1 ⊢; have HA := hide hb1; have HW := hide hw1; clear hb1 hw1)
  | (refine wpList_box_hash _ rfl fp HFV.out.symm rfl ?_; intro w2 hb2 hw2 hs2; have hg2 : w1.heap.size = g + 1 := (by omega); rw [hg2] at hb2; try rw [hg2]; have HF := hide hb2; replace HA := hide (HA.out.below hw2 HA.out.lt); replace HW := hide (HW.out.trans (hw2.mono HW.out.size)); clear hb2 hw2)
  | (refine wpList_cap_zero rfl rfl ?_; intro w3 hb3 hw3 hs3; have hg3 : w2.heap.size = g + 1 + 1 := (by omega); rw [hg3] at hb3; try rw [hg3]; have HZ := hide hb3; replace HA := hide (HA.out.below hw3 HA.out.lt); replace HF := hide (HF.out.below hw3 HF.out.lt); replace HW := hide (HW.out.trans (hw3.mono HW.out.size)); clear hb3 hw3))
 refine wp_region_held_drew (S := fun w' => Below w.heap.size w w' ∧ Blk w' g 23 (u8s seed) ∧ Blk w' (g + 1) 25 (u8s fp)) (by kernel_rfl) ⟨HW.out.drew, HA.out.drew, HF.out.drew⟩ (fun hHeld => ?_)
 replace HZ := hide (HZ.out.below ((Below.refl _ _).drew) HZ.out.lt)
 refine take_e 5 (i := 0) (v := .slice (some ⟨g, 0, none⟩) 16 16) rfl (by kernel_rfl) (Or.inl ⟨by kernel_rfl, fun w' hS => exec_slice_key _ rfl g 0 rfl⟩) hHeld ?_
 try simp only [Act.put, s1_, s2_, s3_]
 refine take_e 8 (i := 3) (v := FV) rfl (by kernel_rfl) (Or.inl ⟨by kernel_rfl, fun w' hS => exec_load_arr _ _ rfl (g + 1) 0 rfl _ (u8s fp) (blk_range hS.2.2 0 _ (fun j u hu => by rw [Nat.zero_add]; exact hu)) Tryd.underlying25 rfl (by rw [u8s_len, H2.out]; exact size_hash) |>.trans (by rw [HFV.out])⟩) hHeld ?_
 try simp only [Act.put, s1_, s2_, s3_]
 refine wpAnyH_ready (rs := [1]) (by kernel_rfl) (by simp) (AllReadyH.cons rfl (fun K hK => ?_) AllReadyH.nil)
 rw [if_pos (by kernel_rfl)]
 refine wp_rows1D 6 rfl _ rfl (.slice (some ⟨g, 0, none⟩) 16 16) rfl rfl ?_
 generalize hgd : Array.size (World.heap _) = gd
 intro wd hbd hwd
 have hsz : _ := hHeld.1.size
 have hX := hHeld.1.trans (hwd.mono (by rw [← hgd]; exact hsz))
 have hA := hHeld.2.1.below hwd (by rw [← hgd]; exact hHeld.2.1.lt)
 have hF := hHeld.2.2.below hwd (by rw [← hgd]; exact hHeld.2.2.lt)
 have HRW := hide (rows_one hbd (hA.reads H1.out (by omega)))
 replace HZ := hide (HZ.out.below hwd (by rw [← hgd]; exact HZ.out.lt))
 have HX := hide (show Below w.heap.size w wd ∧ Blk wd g 23 (u8s seed) ∧ Blk wd (g + 1) 25 (u8s fp) from ⟨hX, hA, hF⟩)
 clear hbd hwd hX hA hF
 refine hK.out _ _ HX.out (fun hHeld => ?_)
 clear HX hK K
 try simp only [Act.put, s1_, s2_, s3_]
 refine wpAnyH_ready (rs := [2]) (by kernel_rfl) (by simp) (AllReadyH.cons rfl (fun K hK => ?_) AllReadyH.nil)
 rw [if_pos (by kernel_rfl)]
 try go_simp
 have hcall := Short_ref tWrite _ [seed] _ HRW.out (by intro x hx; simp at hx; subst hx; exact HSB.out) (by intro x hx; simp at hx; subst hx; have := H1.out; omega) (by simp) (by decide)
 rw [HSW.out] at hcall
 refine hcall.mono ?_
 clear hcall
 rintro e wc ⟨rfl, hb⟩
 have hsz := hHeld.1.size
 have HX := hide (show Below w.heap.size w wc ∧ Blk wc g 23 (u8s seed) ∧ Blk wc (g + 1) 25 (u8s fp) from ⟨hHeld.1.trans (hb.mono hsz), hHeld.2.1.below hb hHeld.2.1.lt, hHeld.2.2.below hb hHeld.2.2.lt⟩)
 replace HZ := hide (HZ.out.below hb HZ.out.lt)
 clear hb
 refine hK.out _ _ HX.out (fun hHeld => ?_)
 clear HX hK K
 try simp only [Act.put, s1_, s2_, s3_]
 refine take_e 9 (i := 4) (v := (capV ⟨4, KR, fp, 0, 0, 0, []⟩ (.slice none 0 0))) rfl (by kernel_rfl) (Or.inl ⟨by kernel_rfl, fun w' hS => exec_build_slot _ _ rfl KR fp rfl (by exact HFV.out.symm) HKL.out H2.out⟩) hHeld ?_
 try simp only [Act.put, s1_, s2_, s3_]
 refine wpAnyH_ready (rs := [5]) (by kernel_rfl) (by simp) (AllReadyH.cons rfl (fun K hK => ?_) AllReadyH.nil)
 rw [if_pos (by kernel_rfl)]
 refine wp_cap_putAllD rfl _ _ rfl rfl HZ.out ⟨4, KR, fp, 0, 0, 0, []⟩ (.slice none 0 0) rfl HKL.out H2.out rfl ?_
 intro ws hb5 hg5 hs5
 replace HZ := hide hb5
 have HX := hide (show Below w.heap.size w ws ∧ Blk ws g 23 (u8s seed) ∧ Blk ws (g + 1) 25 (u8s fp) from ⟨hHeld.1.grown hg5 hHeld.1.size (by intro k hk; simp at hk; omega), hHeld.2.1.grown hg5 (by intro h; injection h with h; omega), hHeld.2.2.grown hg5 (by intro h; injection h with h; omega)⟩)
 clear hb5 hg5 hs5
 refine hK.out _ _ HX.out (fun hHeld => ?_)
 clear HX hK K
 try simp only [Act.put, s1_, s2_, s3_]
 refine wpAnyH_done (by kernel_rfl) ?_ _
 replace HW := hide hHeld.1
 clear hHeld
 go_wp2_with fail
 refine bodyPost_ret (v := capV ⟨4, KR, fp, 0, 0, 0, []⟩ (.slice none 0 0)) (results_cell_row rfl _ _ (g + 1 + 1) 28 (capCells ⟨4, KR, fp, 0, 0, 0, []⟩ (.slice none 0 0)).toArray (0, 0) _ rfl HZ.out.blk Tryd.underlying28 rfl (by rw [List.size_toArray, cc_len _ HZ.out.keyL HZ.out.fpL]; exact size_cap)) rfl ?_
 exact ⟨rfl, HW.out⟩
end Go.Proofs.YthdjgebbjogmiaaDoor

namespace Go.Proofs.YthdjgebbjogmiaaDoor
open Go Go.RowKit Go.ChangeShapes Go.WideShapes Go.ChangeAt
set_option maxRecDepth 100000
set_option linter.unusedVariables false
/-- What an entry's type says of what comes in. -/
structure EntD.In (e : EntD) : Prop where
 nameB : Bytes e.name
 r : e.read.In
 w_ : e.write.In
 nameL : e.name.length ≤ maxLen
theorem EntD.In.wf {e : EntD} (h : e.In) : e.Wf := ⟨h.nameB, h.r.toWf, h.w_.toWf⟩
theorem cut_ent (l : List Value) : l = l.take 1 ++ ((l.drop 1).take 53 ++ ((l.drop 54).take 53 ++ l.drop 107)) := by
 have h : ∀ (n k : Nat), l.drop n = (l.drop n).take k ++ l.drop (n + k) := fun n k => by
  conv => lhs; rw [← List.take_append_drop k (l.drop n)]
  rw [List.drop_drop]
 conv => lhs; rw [← List.take_append_drop 1 l, h 1 53, h 54 53]
section
variable {H : Type} {enc : TypeId × Value → H} {W : World} {d : DataW H} {p : List MemPlace} {base : Nat}
set_option maxRecDepth 100000 in
theorem read_capC {fuel : Nat} {cl : List Value} {x : DataW H × List MemPlace} (hf : DataW.trod enc Tryd.prog W base (fun _ => true) true fuel 28 cl = some x) :
 ∃ (c : CapD) (lit : Value), cl = capCells c lit ∧ c.In ∧ Bs W W.heap.size lit c.lit := by
 obtain ⟨xs, n, _, _, hl, hlen, hi⟩ := DataW.trod_struct Tryd.underlying28 hf
 have hxl : xs.length = 7 := by rw [hlen]; rfl
 have g : ∀ i (h : i < 7), xs[i]? = some (xs[i]'(by omega)) := fun i h => List.getElem?_eq_getElem (by omega)
 have h0 := hi 0 _ rfl; rw [g 0 (by omega)] at h0
 have h1 := hi 1 _ rfl; rw [g 1 (by omega)] at h1
 have h2 := hi 2 _ rfl; rw [g 2 (by omega)] at h2
 have h3 := hi 3 _ rfl; rw [g 3 (by omega)] at h3
 have h4 := hi 4 _ rfl; rw [g 4 (by omega)] at h4
 have h5 := hi 5 _ rfl; rw [g 5 (by omega)] at h5
 have h6 := hi 6 _ rfl; rw [g 6 (by omega)] at h6
 clear hi g
 obtain ⟨a0, e0, _, w0⟩ := DataW.trod_int Tryd.underlying3 h0
 obtain ⟨z1, e1, l1, b1⟩ := read_arr_cells Tryd.underlying23 (by kernel_rfl) h1
 obtain ⟨z2, e2, l2, b2⟩ := read_arr_cells Tryd.underlying25 (by kernel_rfl) h2
 obtain ⟨a3, e3, _, w3⟩ := DataW.trod_int Tryd.underlying3 h3
 obtain ⟨a4, e4, _, w4⟩ := DataW.trod_int Tryd.underlying3 h4
 obtain ⟨a5, e5, _, w5⟩ := DataW.trod_int Tryd.underlying3 h5
 obtain ⟨v6, z6, e6, r6, b6⟩ := read_row8 h6
 refine ⟨⟨a0, z1, z2, a3, a4, a5, z6⟩, v6, ?_, ⟨⟨l1, b1, l2, b2, b6⟩, in64_wf w0, in64_wf w3, in64_wf w4, in64_wf w5⟩, r6⟩
 have c1 : Tryd.prog.cellsOf 3 = 1 := by kernel_rfl
 have c2 : Tryd.prog.cellsOf 23 = 16 := by kernel_rfl
 have c3 : Tryd.prog.cellsOf 25 = 32 := by kernel_rfl
 have c4 : Tryd.prog.cellsOf 26 = 1 := by kernel_rfl
 have c5 : Tryd.prog.cellsOf 28 = 53 := by kernel_rfl
 replace e0 : (cl.drop 0).take (Tryd.prog.cellsOf 3) = [.int .i64 a0] := e0
 replace e1 : (cl.drop 1).take (Tryd.prog.cellsOf 23) = u8s z1 := e1
 replace e2 : (cl.drop 17).take (Tryd.prog.cellsOf 25) = u8s z2 := e2
 replace e3 : (cl.drop 49).take (Tryd.prog.cellsOf 3) = [.int .i64 a3] := e3
 replace e4 : (cl.drop 50).take (Tryd.prog.cellsOf 3) = [.int .i64 a4] := e4
 replace e5 : (cl.drop 51).take (Tryd.prog.cellsOf 3) = [.int .i64 a5] := e5
 replace e6 : (cl.drop 52).take (Tryd.prog.cellsOf 26) = [v6] := e6
 rw [c1] at e0 e3 e4 e5
 rw [c2] at e1
 rw [c3] at e2
 rw [c4] at e6
 have e6' : cl.drop 52 = [v6] := by
  rw [← e6, List.take_of_length_le (by rw [List.length_drop, hl, c5]; omega)]
 unfold capCells
 rw [cut7 cl]
 try simp only [List.drop_zero] at e0
 rw [e0, e1, e2, e3, e4, e5, e6']
 simp
set_option maxRecDepth 100000 in
theorem read_entC {fuel : Nat} {cl : List Value} {x : DataW H × List MemPlace} (hf : DataW.trod enc Tryd.prog W base (fun _ => true) true fuel 45 cl = some x) :
 ∃ (e : EntD) (u : Value × Value), cl = entC e u.1 u.2 ∧ e.In ∧ EntOk W W.heap.size e u.1 u.2 := by
 obtain ⟨xs, n, _, _, hl, hlen, hi⟩ := DataW.trod_struct Tryd.underlying45 hf
 have hxl : xs.length = 4 := by rw [hlen]; rfl
 have g : ∀ i (h : i < 4), xs[i]? = some (xs[i]'(by omega)) := fun i h => List.getElem?_eq_getElem (by omega)
 have h0 := hi 0 _ rfl; rw [g 0 (by omega)] at h0
 have h1 := hi 1 _ rfl; rw [g 1 (by omega)] at h1
 have h2 := hi 2 _ rfl; rw [g 2 (by omega)] at h2
 have h3 := hi 3 _ rfl; rw [g 3 (by omega)] at h3
 clear hi g
 obtain ⟨s, e0, _, hs⟩ := DataW.trod_string Tryd.underlying9 h0
 obtain ⟨c1, l1, e1, i1, r1⟩ := read_capC h1
 obtain ⟨c2, l2, e2, i2, r2⟩ := read_capC h2
 obtain ⟨b3, e3, _⟩ := DataW.trod_bool Tryd.underlying4 h3
 refine ⟨⟨strB s, c1, c2, b3⟩, (l1, l2), ?_, ⟨strB_bytes s, i1, i2, by show (strB s).length ≤ _; rw [strB_len]; exact hs⟩, ⟨⟨strB_bytes s, i1.toWf, i2.toWf⟩, r1, r2⟩⟩
 have k1 : Tryd.prog.cellsOf 9 = 1 := by kernel_rfl
 have k2 : Tryd.prog.cellsOf 28 = 53 := by kernel_rfl
 have k3 : Tryd.prog.cellsOf 4 = 1 := by kernel_rfl
 have k4 : Tryd.prog.cellsOf 45 = 108 := by kernel_rfl
 replace e0 : (cl.drop 0).take (Tryd.prog.cellsOf 9) = [.string s] := e0
 replace e1 : (cl.drop 1).take (Tryd.prog.cellsOf 28) = capCells c1 l1 := e1
 replace e2 : (cl.drop 54).take (Tryd.prog.cellsOf 28) = capCells c2 l2 := e2
 replace e3 : (cl.drop 107).take (Tryd.prog.cellsOf 4) = [.bool b3] := e3
 rw [k1] at e0
 rw [k2] at e1 e2
 rw [k3] at e3
 have e3' : cl.drop 107 = [.bool b3] := by
  rw [← e3, List.take_of_length_le (by rw [List.length_drop, hl, k4]; omega)]
 unfold entC
 rw [cut_ent cl]
 rw [List.drop_zero] at e0
 rw [e0, e1, e2, e3']
 show _ = Value.string (strOfNums (strB s)) :: _
 rw [strOf_strB]
 rfl
set_option maxRecDepth 100000 in
theorem read_ent {v : Value} {r : Reach} {b0 : Nat} (hv : Value.okWide Tryd.prog W r b0 45 v) (h : DataW.Trod enc Tryd.prog W base (fun _ => true) true 45 v d p) :
 ∃ (e : EntD) (u : Value × Value), v = .agg (entC e u.1 u.2).toArray ∧ e.In ∧ EntOk W W.heap.size e u.1 u.2 := by
 obtain ⟨cs, rfl, hsz⟩ := okWide_struct Tryd.underlying45 hv
 obtain ⟨fuel, hf⟩ := h
 obtain ⟨e, u, h1, h2, h3⟩ := read_entC hf
 have hcells : (Value.agg cs).cells = cs := rfl
 rw [hcells] at h1
 exact ⟨e, u, by rw [← h1], h2, h3⟩
set_option maxRecDepth 100000 in
theorem read_ents {v : Value} {r : Reach} {b0 : Nat} (hv : Value.okWide Tryd.prog W r b0 29 v) (h : DataW.Trod enc Tryd.prog W base (fun _ => true) true 29 v d p) :
 ∃ (l : List EntD), EntsB W W.heap.size v l ∧ ∀ e ∈ l, e.In := by
 obtain ⟨fuel, hf⟩ := h
 obtain ⟨s, n, c, rfl⟩ := okWide_slice Tryd.underlying29 hv
 have hv1 : ∀ u : Value, (Value.slice s n c).cells.toList = [u] → Value.slice s n c = u := fun u hu => by
  injection hu
 rcases Go.Deep.open_slice Tryd.underlying29 hf with ⟨hcs, _⟩ | ⟨a, len, cap, m, n, D, Pl, hcs, _, hl, hm, hmm, _, hx⟩
 · refine ⟨[], ?_, fun x hx => by cases hx⟩
   rw [hv1 _ hcs]
   exact EntsB.nil_ _ _
 have hmm' : m = cap := by simpa using hmm
 have c3 : Tryd.prog.cellsOf 45 = 108 := by kernel_rfl
 have each : ∀ i, i < len → ∃ t : EntD × (Value × Value), (∀ j u, (entC t.1 t.2.1 t.2.2)[j]? = some u → W.cell? (a.add (i * 108 + j)) = some u) ∧ t.1.In ∧ EntOk W W.heap.size t.1 t.2.1 t.2.2 := fun i hi => by
  obtain ⟨cs', h1, h2⟩ := hx i (by omega)
  rw [c3] at h1
  obtain ⟨_, hlen, hcell⟩ := World.cells?_some h1
  obtain ⟨e, u, eq, hin, hok⟩ := read_entC h2
  refine ⟨(e, u), fun j y hy => ?_, hin, hok⟩
  have hj : j < cs'.length := by rw [eq]; exact (List.getElem?_eq_some_iff.1 hy).1
  have := hcell j (by omega)
  rw [Go.Deep.add_add] at this
  rw [this, eq]
  exact hy
 have : Inhabited (EntD × (Value × Value)) := ⟨(EntD.none_, (undef, undef))⟩
 obtain ⟨q, hq⟩ := Go.Deep.choose_lt each
 rw [hv1 _ hcs]
 refine ⟨(List.range len).map fun i => (q i).1, ⟨some a, cap, by simp, by simpa using hl, hm, fun hp => ?_⟩, fun t ht => ?_⟩
 · simp only [List.length_map, List.length_range] at hp
   obtain ⟨b, o, spot⟩ := a
   have h0 := (hq 0 hp).1 0 _ ent_name
   have hspot : spot = none := by simpa [Addr.add] using World.cell?_spot h0
   subst hspot
   refine ⟨b, o, rfl, ?_, fun i hi => ?_⟩
   · rw [add_off] at h0
     exact block_lt_of_cell h0
   · simp only [List.length_map, List.length_range] at hi
     simp only [List.getElem_map, List.getElem_range]
     refine ⟨(q i).2.1, (q i).2.2, (hq i hi).2.2, fun j u hu => ?_⟩
     have := (hq i hi).1 j u hu
     rw [add_off] at this
     rw [Nat.add_assoc]
     exact this
 · obtain ⟨i, hi, rfl⟩ := List.mem_map.1 ht
   exact (hq i (List.mem_range.1 hi)).2.1
end
end Go.Proofs.YthdjgebbjogmiaaDoor
