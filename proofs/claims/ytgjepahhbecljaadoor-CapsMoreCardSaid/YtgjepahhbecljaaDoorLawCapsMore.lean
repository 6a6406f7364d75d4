/-
CapsMore holds: a slot's capability, a directory's, write enablers, leases' secrets are the document's. Conditions: none but the row's own.
-/
import Derived.Test.YtgjepahhbecljaaDoorCapKeysR
import Derived.Test.YtgjepahhbecljaaDoorCapKeys
import Derived.Test.YtgjepahhbecljaaDoorCapCut
import Derived.Test.YtgjepahhbecljaaDoorKeyLaws
import Derived.Test.YtgjepahhbecljaaDoorWakes13
import Derived.Test.YtgjepahhbecljaaDoorSameCap
import Derived.Test.YtgjepahhbecljaaDoorFrameHash
import Derived.Test.YtgjepahhbecljaaDoorTied
namespace Go.Proofs.YtgjepahhbecljaaDoor.LawCapsMore
open Go Go.RowKit Go.ChangeShapes Go.WideShapes Go.ChangeAt
set_option linter.unusedVariables false
set_option linter.unusedSimpArgs false
set_option maxRecDepth 100000
section
variable {o : Oper} {a : Act} {w : World}
theorem exec_eql_err (x y : Operand) (t' : TypeId) (ho : o.op = .binOp .eql 30 x y t') (p : Int) (hx : a.eval x = .int .i64 p) (hy : a.eval y = .int .i64 p) : (execOp a.eval o).run Tryd.prog w = .ok (.value (.bool true)) w := by
  unfold execOp
  simp only [ho, hx, hy]
  go_simp
theorem exec_eql_int (x y : Operand) (t' : TypeId) (ho : o.op = .binOp .eql 3 x y t') (p : Int) (hx : a.eval x = .int .i64 p) (hy : a.eval y = .int .i64 p) : (execOp a.eval o).run Tryd.prog w = .ok (.value (.bool true)) w := by
  unfold execOp
  simp only [ho, hx, hy]
  go_simp
theorem exec_pick_t (c x y : Operand) (ho : o.op = .pick c x y) (hc : a.eval c = .bool true) (v : Value) (hx : a.eval x = v) : (execOp a.eval o).run Tryd.prog w = .ok (.value v) w := by
  unfold execOp
  simp only [ho, hc, hx]
  go_simp
theorem exec_eql_key (x y : Operand) (t' : TypeId) (ho : o.op = .binOp .eql 23 x y t') (xs : List Int) (hl : xs.length = 16) (hx : a.eval x = .agg (u8s xs).toArray) (hy : a.eval y = .agg (u8s xs).toArray) : (execOp a.eval o).run Tryd.prog w = .ok (.value (.bool true)) w := by
  unfold execOp
  have := run_eql_arr (P := Tryd.prog) w Tryd.underlying23 Tryd.underlying5 (by kernel_rfl) xs xs hl hl
  simp only [ho, hx, hy, u8s, Sem.run_bind, run_eqGuard_agg w _ _ _ _ _ _ (show Tryd.prog.eqGuardType Tryd.prog.depth 23 = false by kernel_rfl), this, Result.andThen_ok, Sem.run_pure]
  simp
theorem exec_eql_hash (x y : Operand) (t' : TypeId) (ho : o.op = .binOp .eql 25 x y t') (xs : List Int) (hl : xs.length = 32) (hx : a.eval x = .agg (u8s xs).toArray) (hy : a.eval y = .agg (u8s xs).toArray) : (execOp a.eval o).run Tryd.prog w = .ok (.value (.bool true)) w := by
  unfold execOp
  have := run_eql_arr (P := Tryd.prog) w Tryd.underlying25 Tryd.underlying5 (by kernel_rfl) xs xs hl hl
  simp only [ho, hx, hy, u8s, Sem.run_bind, run_eqGuard_agg w _ _ _ _ _ _ (show Tryd.prog.eqGuardType Tryd.prog.depth 25 = false by kernel_rfl), this, Result.andThen_ok, Sem.run_pure]
  simp
end
theorem cut_in {a : CapD} (h : a.In) : (cutF a).In := ⟨⟨h.keyL, h.keyB, h.fpL, h.fpB, fun x hx => h.litB x (List.mem_of_mem_take hx)⟩, h.kindI, h.KI, h.NI, h.SI⟩
theorem dirF_wf {c : CapD} (h : c.Wf) : (dirF c).Wf := by
  unfold dirF
  split
  · exact ⟨h.keyL, h.keyB, h.fpL, h.fpB, h.litB⟩
  · exact CapD.none_wf
theorem enF_len (c : CapD) (n : Int) : (enF c n).length = 16 := by
  unfold enF
  split
  · exact shortF_len _ _
  · rfl

set_option maxHeartbeats 16000000 in
theorem walk (w : World) (ht : Tab w w.heap.size) (a : CapD) (la : Value) (hca : a.In) (hla : Bs w w.heap.size la a.lit) (right : Bool) (S : List Int) (hsl : S.length = 16) (hsb : Bytes S) (Q1 : List Int) (hql : Q1.length = 16) (hqb : Bytes Q1) (X1 : List Int) (hxl : X1.length = 16) (hxb : Bytes X1) (P : List Int) (hpl : P.length = 32) (hpb : Bytes P) (n : Int) (hn : In64 n) :
    Calls Tryd.prog 8 #[capV a la, .bool right, .agg (u8s S).toArray, .agg (u8s Q1).toArray, .agg (u8s X1).toArray, .agg (u8s P).toArray, .int .i64 n] w fun e w' => e = .returned (.bool true) ∧ Below w.heap.size w w' := by
  have HRA := hide (fun (w' : World) (hw : Below w.heap.size w w') => cutc_any a la w' hca.keyL hca.fpL w.heap.size hw.size (hla.below hw (Nat.le_refl _)))
  have HCI := hide (cut_in hca)
  have A1 := hide hca.keyL
  have A2 := hide hca.fpL
  have A3 := hide hla.one
  have HT := hide ht
  have HSL := hide hsl
  have HSB := hide hsb
  have HQL := hide hql
  have HQB := hide hqb
  have HXL := hide hxl
  have HXB := hide hxb
  have HPL := hide hpl
  have hnr : -9223372036854775808 ≤ n ∧ n ≤ 9223372036854775807 := by unfold In64 at hn; omega
  have WS := hide (show (slotF S P).Wf from ⟨keyF_len _ _, keyF_bytes _ _, hpl, hpb, fun x hx => by cases hx⟩)
  have HSN := hide (show (slotF S P).lit = [] from rfl)
  obtain ⟨Cs, HCS⟩ : ∃ x, Hid (slotF S P = x) := ⟨_, hide rfl⟩
  rw [HCS.out] at WS HSN
  have HSS := hide (sameF_self Cs)
  obtain ⟨SLV, HSLV⟩ : ∃ x, Hid (capV Cs (.slice none 0 0) = x) := ⟨_, hide rfl⟩
  obtain ⟨RN, HRN⟩ : ∃ x, Hid (rnF Q1 X1 n = x) := ⟨_, hide rfl⟩
  have HRNL := hide (show RN.length = 16 by rw [← HRN.out]; exact shortF_len _ _)
  obtain ⟨RNV, HRNV⟩ : ∃ x, Hid (Value.agg (u8s RN).toArray = x) := ⟨_, hide rfl⟩
  obtain ⟨VA, EVA⟩ : ∃ x, Hid (capV a la = x) := ⟨_, hide rfl⟩
  obtain ⟨SV, HSV⟩ : ∃ x, Hid (Value.agg (u8s S).toArray = x) := ⟨_, hide rfl⟩
  obtain ⟨QV, HQV⟩ : ∃ x, Hid (Value.agg (u8s Q1).toArray = x) := ⟨_, hide rfl⟩
  obtain ⟨XV, HXV⟩ : ∃ x, Hid (Value.agg (u8s X1).toArray = x) := ⟨_, hide rfl⟩
  obtain ⟨PV, HPV⟩ : ∃ x, Hid (Value.agg (u8s P).toArray = x) := ⟨_, hide rfl⟩
  rw [EVA.out] at HRA ⊢
  rw [HSV.out, HQV.out, HXV.out, HPV.out]
  have hcl := cutF_len a
  have HCT := hide (show (cutF a).lit = a.lit.take 80 from rfl)
  obtain ⟨D, ED⟩ : ∃ x, Hid (cutF a = x) := ⟨_, hide rfl⟩
  rw [ED.out] at HRA HCI hcl HCT
  have hcdl : D.lit.length ≤ 1000000 := by omega
  have HDK := hide HCI.out.keyL
  have HDF := hide HCI.out.fpL
  clear hca hla ht hsl hsb hql hqb hxl hxb hpl hpb hn
  go_enter Tryd.func8, Tryd.ntmps8
  obtain ⟨gc, hgc⟩ : ∃ n, w.heap.size = n := ⟨_, rfl⟩
  obtain ⟨gq, hgq⟩ : ∃ n, gc + 1 = n := ⟨_, rfl⟩
  obtain ⟨gl, hgl⟩ : ∃ n, gq + 1 = n := ⟨_, rfl⟩
  obtain ⟨gx, hgx⟩ : ∃ n, gl + 1 = n := ⟨_, rfl⟩
  obtain ⟨gf, hgf⟩ : ∃ n, gx + 1 = n := ⟨_, rfl⟩
  have hwgc : w.heap.size ≤ gc := by omega
  have hwgq : w.heap.size ≤ gq := by omega
  have hwgl : w.heap.size ≤ gl := by omega
  have hwgx : w.heap.size ≤ gx := by omega
  have hwgf : w.heap.size ≤ gf := by omega
  go_wp2_with (first
    | (refine wpList_cap_new _ rfl (EVA.out.symm) rfl A1.out A2.out A3.out ?_; intro w1 hb1 hw1 hs1; rw [hgc] at hb1 hs1; try rw [hgc]; rw [hgq] at hs1; have B0 := hide hb1; have HW := hide hw1; clear hb1 hw1)
    | (refine wpList_box_hash _ rfl P HPV.out.symm rfl ?_; intro w5 hb5 hw5 hs5; rw [hs4] at hb5 hs5; try rw [hs4]; have Bf := hide hb5; replace B0 := hide (B0.out.below hw5 B0.out.lt); replace Bq := hide (Bq.out.below hw5 Bq.out.lt); replace Bl := hide (Bl.out.below hw5 Bl.out.lt); replace Bx := hide (Bx.out.below hw5 Bx.out.lt); replace HW := hide (HW.out.trans (hw5.mono HW.out.size)); have hz5 : gf + 1 ≤ w5.heap.size := (by omega); clear hb5 hw5 hs1 hs2 hs3 hs4 hs5)
    | (refine wpList_box_key _ rfl X1 HXV.out.symm rfl ?_; intro w4 hb4 hw4 hs4; rw [hs3] at hb4 hs4; try rw [hs3]; rw [hgf] at hs4; have Bx := hide hb4; replace B0 := hide (B0.out.below hw4 B0.out.lt); replace Bq := hide (Bq.out.below hw4 Bq.out.lt); replace Bl := hide (Bl.out.below hw4 Bl.out.lt); replace HW := hide (HW.out.trans (hw4.mono HW.out.size)); clear hb4 hw4)
    | (refine wpList_box_key _ rfl Q1 HQV.out.symm rfl ?_; intro w3 hb3 hw3 hs3; rw [hs2] at hb3 hs3; try rw [hs2]; rw [hgx] at hs3; have Bl := hide hb3; replace B0 := hide (B0.out.below hw3 B0.out.lt); replace Bq := hide (Bq.out.below hw3 Bq.out.lt); replace HW := hide (HW.out.trans (hw3.mono HW.out.size)); clear hb3 hw3)
    | (refine wpList_box_key _ rfl S HSV.out.symm rfl ?_; intro w2 hb2 hw2 hs2; rw [hs1] at hb2 hs2; try rw [hs1]; rw [hgl] at hs2; have Bq := hide hb2; replace B0 := hide (B0.out.below hw2 B0.out.lt); replace HW := hide (HW.out.trans (hw2.mono HW.out.size)); clear hb2 hw2)
    | (refine wpList_cap_all _ rfl rfl rfl B0.out ?_; rw [EVA.out]))
  refine (HRA.out _ HW.out).mono ?_
  rintro e w6 ⟨lc, rfl, ho, hb⟩
  have hz6 := hb.size
  replace B0 := hide (B0.out.below hb B0.out.lt)
  replace Bq := hide (Bq.out.below hb Bq.out.lt)
  replace Bl := hide (Bl.out.below hb Bl.out.lt)
  replace Bx := hide (Bx.out.below hb Bx.out.lt)
  replace Bf := hide (Bf.out.below hb Bf.out.lt)
  replace HW := hide (HW.out.trans (hb.mono HW.out.size))
  rw [← HCT.out] at ho
  have HO := hide ho
  have LOc := hide ho.one
  clear hb ho
  obtain ⟨Vd_, EVd_⟩ : ∃ x, Hid (capV D lc = x) := ⟨_, hide rfl⟩
  rw [EVd_.out]
  cases right
  case false =>
    have HWF := hide HCI.out.toWf
    have hlitn := hcdl
    obtain ⟨E1, HE1⟩ : ∃ x, Hid (dirE D = x) := ⟨_, hide rfl⟩
    obtain ⟨E2, HE2⟩ : ∃ x, Hid (enE D = x) := ⟨_, hide rfl⟩
    obtain ⟨Cd, HCD⟩ : ∃ x, Hid (dirF D = x) := ⟨_, hide rfl⟩
    obtain ⟨EN, HEN⟩ : ∃ x, Hid (enF D n = x) := ⟨_, hide rfl⟩
    have WD := hide (show Cd.Wf by rw [← HCD.out]; exact dirF_wf HWF.out)
    have HENL := hide (show EN.length = 16 by rw [← HEN.out]; exact enF_len _ _)
    have HSD := hide (sameF_self Cd)
    go_wp2_with (first
        | (refine wpList_cap_putAll _ _ rfl rfl rfl B0.out D lc EVd_.out.symm HDK.out HDF.out LOc.out ?_; intro w7 hb7 hg7 hs7; have hbt := (Below.refl gc _).grown hg7 (by have := B0.out.lt; omega) (by intro k hk; simp at hk; omega); replace B0 := hide hb7; replace HO := hide (HO.out.below hbt (by omega)); replace Bq := hide (Bq.out.grown hg7 (by intro h; injection h with h; omega)); replace Bl := hide (Bl.out.grown hg7 (by intro h; injection h with h; omega)); replace Bx := hide (Bx.out.grown hg7 (by intro h; injection h with h; omega)); replace Bf := hide (Bf.out.grown hg7 (by intro h; injection h with h; omega)); replace HW := hide (HW.out.grown hg7 HW.out.size (by intro k hk; simp at hk; omega)); have Bc := B0; have Lc := HO; have hz7 : gf + 1 ≤ w7.heap.size := (by omega); clear hb7 hg7 hs7 hbt)
        | (refine wpList_cap_all _ rfl rfl rfl Bc.out ?_; rw [EVd_.out]))
    have hcall := Dir_any D lc w7 HWF.out (Lc.out.more (by omega)) hlitn
    rw [EVd_.out, HCD.out, HE1.out] at hcall
    refine hcall.mono ?_
    clear hcall
    rintro e wc1 ⟨ld_, rfl, hl, hb⟩
    have hz1 := hb.size
    replace Lc := hide (Lc.out.below hb (by have := Bc.out.lt; omega))
    replace Bq := hide (Bq.out.below hb Bq.out.lt)
    replace Bl := hide (Bl.out.below hb Bl.out.lt)
    replace Bx := hide (Bx.out.below hb Bx.out.lt)
    replace Bf := hide (Bf.out.below hb Bf.out.lt)
    replace Bc := hide (Bc.out.below hb Bc.out.lt)
    replace HW := hide (HW.out.trans (hb.mono HW.out.size))
    have Ld := hide hl
    have LOd := hide hl.one
    clear hl
    clear hb
    obtain ⟨Vd, EVd⟩ : ∃ x, Hid (capV Cd ld_ = x) := ⟨_, hide rfl⟩
    rw [EVd.out]
    obtain ⟨gd, hgd⟩ : ∃ n, wc1.heap.size = n := ⟨_, rfl⟩
    have hwgd : w.heap.size ≤ gd := by have := HW.out.size; omega
    have hgqgd : gq < gd := by have := Bq.out.lt; omega
    have hglgd : gl < gd := by have := Bl.out.lt; omega
    have hgxgd : gx < gd := by have := Bx.out.lt; omega
    have hgfgd : gf < gd := by have := Bf.out.lt; omega
    have hgcgd : gc < gd := by have := Bc.out.lt; omega
    rw [hgd] at Ld
    go_wp2_with (first
        | (refine wpList_cap_zero rfl rfl ?_; intro wa1 hba hwa hsa; rw [hgd] at hba hwa hsa; try rw [hgd]; have Bd := hide hba; replace Lc := hide (Lc.out.below hwa (by omega)); replace Ld := hide (Ld.out.below hwa (by omega)); replace Bq := hide (Bq.out.below hwa (by omega)); replace Bl := hide (Bl.out.below hwa (by omega)); replace Bx := hide (Bx.out.below hwa (by omega)); replace Bf := hide (Bf.out.below hwa (by omega)); replace Bc := hide (Bc.out.below hwa (by omega)); replace HW := hide (HW.out.trans (hwa.mono (by omega))); have hza1 : gd + 1 ≤ wa1.heap.size := (by omega); clear hba hwa hsa)
        | (refine wpList_cap_putAll _ _ rfl rfl rfl Bd.out Cd ld_ EVd.out.symm WD.out.keyL WD.out.fpL LOd.out ?_; intro ws1 hbs hgs hss; have hbt := (Below.refl gd _).grown hgs (by have := Bd.out.lt; omega) (by intro k hk; simp at hk; omega); replace Lc := hide (Lc.out.below hbt (by omega)); replace Bq := hide (Bq.out.grown hgs (by intro h; injection h with h; omega)); replace Bl := hide (Bl.out.grown hgs (by intro h; injection h with h; omega)); replace Bx := hide (Bx.out.grown hgs (by intro h; injection h with h; omega)); replace Bf := hide (Bf.out.grown hgs (by intro h; injection h with h; omega)); replace Bc := hide (Bc.out.grown hgs (by intro h; injection h with h; omega)); replace HW := hide (HW.out.grown hgs HW.out.size (by intro k hk; simp at hk; omega)); replace Ld := hide (Ld.out.below hbt (by omega)); clear hbt; replace Bd := hide hbs; have hzs1 : gd + 1 ≤ ws1.heap.size := (by omega); clear hbs hgs hss)
        | (refine wpList_cap_all _ rfl rfl rfl Bc.out ?_; rw [EVd_.out]))
    have hcall := Dir_ref D lc ws1 HWF.out (Lc.out.more (by omega)) hlitn
    rw [EVd_.out, HCD.out, HE1.out] at hcall
    refine hcall.mono ?_
    clear hcall
    rintro e wc2 ⟨le_, rfl, hl, hb⟩
    have hz2 := hb.size
    replace Lc := hide (Lc.out.below hb (by have := Bc.out.lt; omega))
    replace Ld := hide (Ld.out.below hb (by have := Bd.out.lt; omega))
    replace Bq := hide (Bq.out.below hb Bq.out.lt)
    replace Bl := hide (Bl.out.below hb Bl.out.lt)
    replace Bx := hide (Bx.out.below hb Bx.out.lt)
    replace Bf := hide (Bf.out.below hb Bf.out.lt)
    replace Bc := hide (Bc.out.below hb Bc.out.lt)
    replace Bd := hide (Bd.out.below hb Bd.out.lt)
    replace HW := hide (HW.out.trans (hb.mono HW.out.size))
    have Le := hide hl
    have LOe := hide hl.one
    clear hl
    clear hb
    obtain ⟨Ve, EVe⟩ : ∃ x, Hid (capV Cd le_ = x) := ⟨_, hide rfl⟩
    rw [EVe.out]
    obtain ⟨ge, hge⟩ : ∃ n, wc2.heap.size = n := ⟨_, rfl⟩
    have hwge : w.heap.size ≤ ge := by have := HW.out.size; omega
    have hgqge : gq < ge := by have := Bq.out.lt; omega
    have hglge : gl < ge := by have := Bl.out.lt; omega
    have hgxge : gx < ge := by have := Bx.out.lt; omega
    have hgfge : gf < ge := by have := Bf.out.lt; omega
    have hgcge : gc < ge := by have := Bc.out.lt; omega
    have hgdge : gd < ge := by have := Bd.out.lt; omega
    rw [hge] at Le
    go_wp2_with (first
        | (refine wpList_cap_zero rfl rfl ?_; intro wa2 hba hwa hsa; rw [hge] at hba hwa hsa; try rw [hge]; have Be := hide hba; replace Lc := hide (Lc.out.below hwa (by omega)); replace Ld := hide (Ld.out.below hwa (by omega)); replace Le := hide (Le.out.below hwa (by omega)); replace Bq := hide (Bq.out.below hwa (by omega)); replace Bl := hide (Bl.out.below hwa (by omega)); replace Bx := hide (Bx.out.below hwa (by omega)); replace Bf := hide (Bf.out.below hwa (by omega)); replace Bc := hide (Bc.out.below hwa (by omega)); replace Bd := hide (Bd.out.below hwa (by omega)); replace HW := hide (HW.out.trans (hwa.mono (by omega))); have hza2 : ge + 1 ≤ wa2.heap.size := (by omega); clear hba hwa hsa)
        | (refine wpList_cap_putAll _ _ rfl rfl rfl Be.out Cd le_ EVe.out.symm WD.out.keyL WD.out.fpL LOe.out ?_; intro ws2 hbs hgs hss; have hbt := (Below.refl ge _).grown hgs (by have := Be.out.lt; omega) (by intro k hk; simp at hk; omega); replace Lc := hide (Lc.out.below hbt (by omega)); replace Ld := hide (Ld.out.below hbt (by omega)); replace Bq := hide (Bq.out.grown hgs (by intro h; injection h with h; omega)); replace Bl := hide (Bl.out.grown hgs (by intro h; injection h with h; omega)); replace Bx := hide (Bx.out.grown hgs (by intro h; injection h with h; omega)); replace Bf := hide (Bf.out.grown hgs (by intro h; injection h with h; omega)); replace Bc := hide (Bc.out.grown hgs (by intro h; injection h with h; omega)); replace Bd := hide (Bd.out.grown hgs (by intro h; injection h with h; omega)); replace HW := hide (HW.out.grown hgs HW.out.size (by intro k hk; simp at hk; omega)); replace Le := hide (Le.out.below hbt (by omega)); clear hbt; replace Be := hide hbs; have hzs2 : ge + 1 ≤ ws2.heap.size := (by omega); clear hbs hgs hss)
        | (refine wpList_cap_all _ rfl rfl rfl Bc.out ?_; rw [EVd_.out]))
    have hcall := Enabler_any D lc n ws2 HWF.out (Lc.out.more (by omega)) hlitn ((HT.out.below HW.out (Nat.le_refl _)).more HW.out.size) hnr
    rw [EVd_.out, HEN.out, HE2.out] at hcall
    refine hcall.mono ?_
    clear hcall
    rintro e wc3 ⟨rfl, hb⟩
    have hz3 := hb.size
    replace Lc := hide (Lc.out.below hb (by have := Bc.out.lt; omega))
    replace Ld := hide (Ld.out.below hb (by have := Bd.out.lt; omega))
    replace Le := hide (Le.out.below hb (by have := Be.out.lt; omega))
    replace Bq := hide (Bq.out.below hb Bq.out.lt)
    replace Bl := hide (Bl.out.below hb Bl.out.lt)
    replace Bx := hide (Bx.out.below hb Bx.out.lt)
    replace Bf := hide (Bf.out.below hb Bf.out.lt)
    replace Bc := hide (Bc.out.below hb Bc.out.lt)
    replace Bd := hide (Bd.out.below hb Bd.out.lt)
    replace Be := hide (Be.out.below hb Be.out.lt)
    replace HW := hide (HW.out.trans (hb.mono HW.out.size))
    clear hb
    obtain ⟨ga, hga⟩ : ∃ n, wc3.heap.size = n := ⟨_, rfl⟩
    have hwga : w.heap.size ≤ ga := by have := HW.out.size; omega
    have hgqga : gq < ga := by have := Bq.out.lt; omega
    have hglga : gl < ga := by have := Bl.out.lt; omega
    have hgxga : gx < ga := by have := Bx.out.lt; omega
    have hgfga : gf < ga := by have := Bf.out.lt; omega
    have hgcga : gc < ga := by have := Bc.out.lt; omega
    have hgdga : gd < ga := by have := Bd.out.lt; omega
    have hgega : ge < ga := by have := Be.out.lt; omega
    go_wp2_with (first
        | (refine wpList_alloc_blk rfl 23 rfl _ zero_key ?_; intro wa3 hba hwa hsa; rw [hga] at hba hwa hsa; try rw [hga]; have Ba := hide hba; replace Lc := hide (Lc.out.below hwa (by omega)); replace Ld := hide (Ld.out.below hwa (by omega)); replace Le := hide (Le.out.below hwa (by omega)); replace Bq := hide (Bq.out.below hwa (by omega)); replace Bl := hide (Bl.out.below hwa (by omega)); replace Bx := hide (Bx.out.below hwa (by omega)); replace Bf := hide (Bf.out.below hwa (by omega)); replace Bc := hide (Bc.out.below hwa (by omega)); replace Bd := hide (Bd.out.below hwa (by omega)); replace Be := hide (Be.out.below hwa (by omega)); replace HW := hide (HW.out.trans (hwa.mono (by omega))); have hza3 : ga + 1 ≤ wa3.heap.size := (by omega); clear hba hwa hsa)
        | (refine wpList_store_blk rfl 23 _ _ rfl ga 0 (u8s EN) rfl (by exact rfl) _ _ Ba.out (by rw [u8s_len, u8s_len, HENL.out]; simp) (by rw [u8s_len, HENL.out]; exact size_key) (u8s_one _) ?_; intro ws3 hbs hgs hss; rw [lset_all _ _ (by rw [u8s_len, u8s_len, HENL.out]; rfl)] at hbs; have hbt := (Below.refl ga _).grown hgs (by have := Ba.out.lt; omega) (by intro k hk; simp at hk; omega); replace Lc := hide (Lc.out.below hbt (by omega)); replace Ld := hide (Ld.out.below hbt (by omega)); replace Le := hide (Le.out.below hbt (by omega)); replace Bq := hide (Bq.out.grown hgs (by intro h; injection h with h; omega)); replace Bl := hide (Bl.out.grown hgs (by intro h; injection h with h; omega)); replace Bx := hide (Bx.out.grown hgs (by intro h; injection h with h; omega)); replace Bf := hide (Bf.out.grown hgs (by intro h; injection h with h; omega)); replace Bc := hide (Bc.out.grown hgs (by intro h; injection h with h; omega)); replace Bd := hide (Bd.out.grown hgs (by intro h; injection h with h; omega)); replace Be := hide (Be.out.grown hgs (by intro h; injection h with h; omega)); replace HW := hide (HW.out.grown hgs HW.out.size (by intro k hk; simp at hk; omega)); clear hbt; replace Ba := hide hbs; have hzs3 : ga + 1 ≤ ws3.heap.size := (by omega); clear hbs hgs hss)
        | (refine wpList_cap_all _ rfl rfl rfl Bc.out ?_; rw [EVd_.out]))
    have hcall := Enabler_ref D lc n ws3 HWF.out (Lc.out.more (by omega)) hlitn hnr
    rw [EVd_.out, HEN.out, HE2.out] at hcall
    refine hcall.mono ?_
    clear hcall
    rintro e wc4 ⟨rfl, hb⟩
    have hz4 := hb.size
    replace Lc := hide (Lc.out.below hb (by have := Bc.out.lt; omega))
    replace Ld := hide (Ld.out.below hb (by have := Bd.out.lt; omega))
    replace Le := hide (Le.out.below hb (by have := Be.out.lt; omega))
    replace Bq := hide (Bq.out.below hb Bq.out.lt)
    replace Bl := hide (Bl.out.below hb Bl.out.lt)
    replace Bx := hide (Bx.out.below hb Bx.out.lt)
    replace Bf := hide (Bf.out.below hb Bf.out.lt)
    replace Bc := hide (Bc.out.below hb Bc.out.lt)
    replace Bd := hide (Bd.out.below hb Bd.out.lt)
    replace Be := hide (Be.out.below hb Be.out.lt)
    replace Ba := hide (Ba.out.below hb Ba.out.lt)
    replace HW := hide (HW.out.trans (hb.mono HW.out.size))
    clear hb
    obtain ⟨gb, hgb⟩ : ∃ n, wc4.heap.size = n := ⟨_, rfl⟩
    have hwgb : w.heap.size ≤ gb := by have := HW.out.size; omega
    have hgqgb : gq < gb := by have := Bq.out.lt; omega
    have hglgb : gl < gb := by have := Bl.out.lt; omega
    have hgxgb : gx < gb := by have := Bx.out.lt; omega
    have hgfgb : gf < gb := by have := Bf.out.lt; omega
    have hgcgb : gc < gb := by have := Bc.out.lt; omega
    have hgdgb : gd < gb := by have := Bd.out.lt; omega
    have hgegb : ge < gb := by have := Be.out.lt; omega
    have hgagb : ga < gb := by have := Ba.out.lt; omega
    go_upto_region 8 with (first
        | go_skip
        | (refine wpList_alloc_blk rfl 23 rfl _ zero_key ?_; intro wa4 hba hwa hsa; rw [hgb] at hba hwa hsa; try rw [hgb]; have Bb := hide hba; replace Lc := hide (Lc.out.below hwa (by omega)); replace Ld := hide (Ld.out.below hwa (by omega)); replace Le := hide (Le.out.below hwa (by omega)); replace Bq := hide (Bq.out.below hwa (by omega)); replace Bl := hide (Bl.out.below hwa (by omega)); replace Bx := hide (Bx.out.below hwa (by omega)); replace Bf := hide (Bf.out.below hwa (by omega)); replace Bc := hide (Bc.out.below hwa (by omega)); replace Bd := hide (Bd.out.below hwa (by omega)); replace Be := hide (Be.out.below hwa (by omega)); replace Ba := hide (Ba.out.below hwa (by omega)); replace HW := hide (HW.out.trans (hwa.mono (by omega))); have hza4 : gb + 1 ≤ wa4.heap.size := (by omega); clear hba hwa hsa)
        | (refine wpList_store_blk rfl 23 _ _ rfl gb 0 (u8s EN) rfl (by exact rfl) _ _ Bb.out (by rw [u8s_len, u8s_len, HENL.out]; simp) (by rw [u8s_len, HENL.out]; exact size_key) (u8s_one _) ?_; intro ws4 hbs hgs hss; rw [lset_all _ _ (by rw [u8s_len, u8s_len, HENL.out]; rfl)] at hbs; have hbt := (Below.refl gb _).grown hgs (by have := Bb.out.lt; omega) (by intro k hk; simp at hk; omega); replace Lc := hide (Lc.out.below hbt (by omega)); replace Ld := hide (Ld.out.below hbt (by omega)); replace Le := hide (Le.out.below hbt (by omega)); replace Bq := hide (Bq.out.grown hgs (by intro h; injection h with h; omega)); replace Bl := hide (Bl.out.grown hgs (by intro h; injection h with h; omega)); replace Bx := hide (Bx.out.grown hgs (by intro h; injection h with h; omega)); replace Bf := hide (Bf.out.grown hgs (by intro h; injection h with h; omega)); replace Bc := hide (Bc.out.grown hgs (by intro h; injection h with h; omega)); replace Bd := hide (Bd.out.grown hgs (by intro h; injection h with h; omega)); replace Be := hide (Be.out.grown hgs (by intro h; injection h with h; omega)); replace Ba := hide (Ba.out.grown hgs (by intro h; injection h with h; omega)); replace HW := hide (HW.out.grown hgs HW.out.size (by intro k hk; simp at hk; omega)); clear hbt; replace Bb := hide hbs; have hzs4 : gb + 1 ≤ ws4.heap.size := (by omega); clear hbs hgs hss))
    refine wp_region_quietC (fun w' => Below ws4.heap.size ws4 w') (by kernel_rfl) (by kernel_rfl) (Below.refl _ _).drew ?_
    refine quiet_val 50 rfl (by kernel_rfl) (fun w' hw' => exec_load_arr _ _ rfl gq 0 rfl _ (u8s S) (blk_range (Bq.out.below hw' Bq.out.lt) 0 _ (fun j u hu => by rw [Nat.zero_add]; exact hu)) Tryd.underlying23 rfl (by rw [u8s_len, HSL.out]; exact size_key) |>.trans (by rw [HSV.out])) ?_
    simp only [Act.put, List.setIfInBounds_toArray, List.set_cons_zero, List.set_cons_succ]
    refine quiet_val 51 rfl (by kernel_rfl) (fun w' hw' => exec_load_arr _ _ rfl gf 0 rfl _ (u8s P) (blk_range (Bf.out.below hw' Bf.out.lt) 0 _ (fun j u hu => by rw [Nat.zero_add]; exact hu)) Tryd.underlying25 rfl (by rw [u8s_len, HPL.out]; exact size_hash) |>.trans (by rw [HPV.out])) ?_
    simp only [Act.put, List.setIfInBounds_toArray, List.set_cons_zero, List.set_cons_succ]
    refine quiet_call 52 rfl (by kernel_rfl) 35 #[SV, PV] (fun w' => exec_call _ _ _ rfl _ (by simp [Act.eval]) (by go_simp)) (fun w' hw' => calls_below hw' (by have hc := Slot_any S P w' HSL.out HSB.out HPL.out ((HT.out.below (HW.out.trans (hw'.mono HW.out.size)) (Nat.le_refl _)).more (HW.out.trans (hw'.mono HW.out.size)).size); rw [HSV.out, HPV.out, HCS.out, HSLV.out] at hc; exact hc)) ?_
    simp only [Act.put, List.setIfInBounds_toArray, List.set_cons_zero, List.set_cons_succ]
    refine quiet_val 53 rfl (by kernel_rfl) (fun w' hw' => exec_load_arr _ _ rfl gq 0 rfl _ (u8s S) (blk_range (Bq.out.below hw' Bq.out.lt) 0 _ (fun j u hu => by rw [Nat.zero_add]; exact hu)) Tryd.underlying23 rfl (by rw [u8s_len, HSL.out]; exact size_key) |>.trans (by rw [HSV.out])) ?_
    simp only [Act.put, List.setIfInBounds_toArray, List.set_cons_zero, List.set_cons_succ]
    refine quiet_val 54 rfl (by kernel_rfl) (fun w' hw' => exec_load_arr _ _ rfl gf 0 rfl _ (u8s P) (blk_range (Bf.out.below hw' Bf.out.lt) 0 _ (fun j u hu => by rw [Nat.zero_add]; exact hu)) Tryd.underlying25 rfl (by rw [u8s_len, HPL.out]; exact size_hash) |>.trans (by rw [HPV.out])) ?_
    simp only [Act.put, List.setIfInBounds_toArray, List.set_cons_zero, List.set_cons_succ]
    refine quiet_call 55 rfl (by kernel_rfl) 36 #[SV, PV] (fun w' => exec_call _ _ _ rfl _ (by simp [Act.eval]) (by go_simp)) (fun w' hw' => calls_below hw' (by have hc := Slot_ref S P w' HSL.out HSB.out HPL.out; rw [HSV.out, HPV.out, HCS.out, HSLV.out] at hc; exact hc)) ?_
    simp only [Act.put, List.setIfInBounds_toArray, List.set_cons_zero, List.set_cons_succ]
    refine quiet_call 56 rfl (by kernel_rfl) 27 #[SLV, SLV] (fun w' => exec_call _ _ _ rfl _ (by simp [Act.eval]) (by go_simp)) (fun w' hw' => calls_below hw' (by have hc := same_cap Cs Cs (.slice none 0 0) (.slice none 0 0) w' WS.out.keyL WS.out.fpL WS.out.keyL WS.out.fpL (by rw [HSN.out]; exact Bs.nil_ _ _) (by rw [HSN.out]; exact Bs.nil_ _ _) WS.out.litB WS.out.litB; rw [HSLV.out, HSS.out] at hc; exact hc)) ?_
    simp only [Act.put, List.setIfInBounds_toArray, List.set_cons_zero, List.set_cons_succ]
    refine quiet_val 57 rfl (by kernel_rfl) (fun w' hw' => exec_move _ rfl (.bool true) rfl) ?_
    simp only [Act.put, List.setIfInBounds_toArray, List.set_cons_zero, List.set_cons_succ]
    refine quiet_val 58 rfl (by kernel_rfl) (fun w' hw' => exec_move _ rfl (.int .i64 E1) rfl) ?_
    simp only [Act.put, List.setIfInBounds_toArray, List.set_cons_zero, List.set_cons_succ]
    refine quiet_val 59 rfl (by kernel_rfl) (fun w' hw' => exec_move _ rfl (.int .i64 E1) rfl) ?_
    simp only [Act.put, List.setIfInBounds_toArray, List.set_cons_zero, List.set_cons_succ]
    refine quiet_val 60 rfl (by kernel_rfl) (fun w' hw' => exec_eql_err _ _ _ rfl E1 rfl rfl) ?_
    simp only [Act.put, List.setIfInBounds_toArray, List.set_cons_zero, List.set_cons_succ]
    refine quiet_val 61 rfl (by kernel_rfl) (fun w' hw' => exec_pick_t _ _ _ rfl rfl (.bool true) rfl) ?_
    simp only [Act.put, List.setIfInBounds_toArray, List.set_cons_zero, List.set_cons_succ]
    refine quiet_val 62 rfl (by kernel_rfl) (fun w' hw' => exec_move _ rfl (.bool true) rfl) ?_
    simp only [Act.put, List.setIfInBounds_toArray, List.set_cons_zero, List.set_cons_succ]
    refine quiet_val 63 rfl (by kernel_rfl) (fun w' hw' => exec_load_arr _ _ rfl gd 0 rfl _ (capCells Cd ld_) (blk_range (Bd.out.below hw' Bd.out.lt).blk 0 _ (fun j u hu => by rw [Nat.zero_add]; exact hu)) Tryd.underlying28 rfl (by rw [cc_len ld_ Bd.out.keyL Bd.out.fpL]; exact size_cap) |>.trans (by rw [show Value.agg (capCells Cd ld_).toArray = Vd from EVd.out])) ?_
    simp only [Act.put, List.setIfInBounds_toArray, List.set_cons_zero, List.set_cons_succ]
    refine quiet_val 64 rfl (by kernel_rfl) (fun w' hw' => exec_load_arr _ _ rfl ge 0 rfl _ (capCells Cd le_) (blk_range (Be.out.below hw' Be.out.lt).blk 0 _ (fun j u hu => by rw [Nat.zero_add]; exact hu)) Tryd.underlying28 rfl (by rw [cc_len le_ Be.out.keyL Be.out.fpL]; exact size_cap) |>.trans (by rw [show Value.agg (capCells Cd le_).toArray = Ve from EVe.out])) ?_
    simp only [Act.put, List.setIfInBounds_toArray, List.set_cons_zero, List.set_cons_succ]
    refine quiet_call 65 rfl (by kernel_rfl) 27 #[Vd, Ve] (fun w' => exec_call _ _ _ rfl _ (by simp [Act.eval]) (by go_simp)) (fun w' hw' => calls_below hw' (by have hc := same_cap Cd Cd ld_ le_ w' WD.out.keyL WD.out.fpL WD.out.keyL WD.out.fpL ((Ld.out.below hw' (by have := Bd.out.lt; omega)).more (by have := Bd.out.lt; have := hw'.size; omega)) ((Le.out.below hw' (by have := Be.out.lt; omega)).more (by have := Be.out.lt; have := hw'.size; omega)) WD.out.litB WD.out.litB; rw [EVd.out, EVe.out, HSD.out] at hc; exact hc)) ?_
    simp only [Act.put, List.setIfInBounds_toArray, List.set_cons_zero, List.set_cons_succ]
    refine quiet_val 66 rfl (by kernel_rfl) (fun w' hw' => exec_pick_t _ _ _ rfl rfl (.bool true) rfl) ?_
    simp only [Act.put, List.setIfInBounds_toArray, List.set_cons_zero, List.set_cons_succ]
    refine quiet_val 67 rfl (by kernel_rfl) (fun w' hw' => exec_move _ rfl (.bool true) rfl) ?_
    simp only [Act.put, List.setIfInBounds_toArray, List.set_cons_zero, List.set_cons_succ]
    refine quiet_val 68 rfl (by kernel_rfl) (fun w' hw' => exec_move _ rfl (.int .i64 E2) rfl) ?_
    simp only [Act.put, List.setIfInBounds_toArray, List.set_cons_zero, List.set_cons_succ]
    refine quiet_val 69 rfl (by kernel_rfl) (fun w' hw' => exec_move _ rfl (.int .i64 E2) rfl) ?_
    simp only [Act.put, List.setIfInBounds_toArray, List.set_cons_zero, List.set_cons_succ]
    refine quiet_val 70 rfl (by kernel_rfl) (fun w' hw' => exec_eql_err _ _ _ rfl E2 rfl rfl) ?_
    simp only [Act.put, List.setIfInBounds_toArray, List.set_cons_zero, List.set_cons_succ]
    refine quiet_val 71 rfl (by kernel_rfl) (fun w' hw' => exec_pick_t _ _ _ rfl rfl (.bool true) rfl) ?_
    simp only [Act.put, List.setIfInBounds_toArray, List.set_cons_zero, List.set_cons_succ]
    refine quiet_val 72 rfl (by kernel_rfl) (fun w' hw' => exec_move _ rfl (.bool true) rfl) ?_
    simp only [Act.put, List.setIfInBounds_toArray, List.set_cons_zero, List.set_cons_succ]
    refine quiet_val 73 rfl (by kernel_rfl) (fun w' hw' => exec_load_arr _ _ rfl ga 0 rfl _ (u8s EN) (blk_range (Ba.out.below hw' Ba.out.lt) 0 _ (fun j u hu => by rw [Nat.zero_add]; exact hu)) Tryd.underlying23 rfl (by rw [u8s_len, HENL.out]; exact size_key)) ?_
    simp only [Act.put, List.setIfInBounds_toArray, List.set_cons_zero, List.set_cons_succ]
    refine quiet_val 74 rfl (by kernel_rfl) (fun w' hw' => exec_load_arr _ _ rfl gb 0 rfl _ (u8s EN) (blk_range (Bb.out.below hw' Bb.out.lt) 0 _ (fun j u hu => by rw [Nat.zero_add]; exact hu)) Tryd.underlying23 rfl (by rw [u8s_len, HENL.out]; exact size_key)) ?_
    simp only [Act.put, List.setIfInBounds_toArray, List.set_cons_zero, List.set_cons_succ]
    refine quiet_val 75 rfl (by kernel_rfl) (fun w' hw' => exec_eql_key _ _ _ rfl EN HENL.out rfl rfl) ?_
    simp only [Act.put, List.setIfInBounds_toArray, List.set_cons_zero, List.set_cons_succ]
    refine quiet_val 76 rfl (by kernel_rfl) (fun w' hw' => exec_pick_t _ _ _ rfl rfl (.bool true) rfl) ?_
    simp only [Act.put, List.setIfInBounds_toArray, List.set_cons_zero, List.set_cons_succ]
    refine quiet_val 77 rfl (by kernel_rfl) (fun w' hw' => exec_move _ rfl (.bool true) rfl) ?_
    simp only [Act.put, List.setIfInBounds_toArray, List.set_cons_zero, List.set_cons_succ]
    refine quiet_val 78 rfl (by kernel_rfl) (fun w' hw' => exec_load_arr _ _ rfl gl 0 rfl _ (u8s Q1) (blk_range (Bl.out.below hw' Bl.out.lt) 0 _ (fun j u hu => by rw [Nat.zero_add]; exact hu)) Tryd.underlying23 rfl (by rw [u8s_len, HQL.out]; exact size_key) |>.trans (by rw [HQV.out])) ?_
    simp only [Act.put, List.setIfInBounds_toArray, List.set_cons_zero, List.set_cons_succ]
    refine quiet_val 79 rfl (by kernel_rfl) (fun w' hw' => exec_load_arr _ _ rfl gx 0 rfl _ (u8s X1) (blk_range (Bx.out.below hw' Bx.out.lt) 0 _ (fun j u hu => by rw [Nat.zero_add]; exact hu)) Tryd.underlying23 rfl (by rw [u8s_len, HXL.out]; exact size_key) |>.trans (by rw [HXV.out])) ?_
    simp only [Act.put, List.setIfInBounds_toArray, List.set_cons_zero, List.set_cons_succ]
    refine quiet_val 80 rfl (by kernel_rfl) (fun w' hw' => exec_move _ rfl (.int .i64 n) rfl) ?_
    simp only [Act.put, List.setIfInBounds_toArray, List.set_cons_zero, List.set_cons_succ]
    refine quiet_call 81 rfl (by kernel_rfl) 37 #[QV, XV, .int .i64 n] (fun w' => exec_call _ _ _ rfl _ (by simp [Act.eval]) (by go_simp)) (fun w' hw' => calls_below hw' (by have hc := Renewal_any Q1 X1 n w' HQL.out HQB.out HXL.out HXB.out ((HT.out.below (HW.out.trans (hw'.mono HW.out.size)) (Nat.le_refl _)).more (HW.out.trans (hw'.mono HW.out.size)).size) hnr; rw [HQV.out, HXV.out, HRN.out, HRNV.out] at hc; exact hc)) ?_
    simp only [Act.put, List.setIfInBounds_toArray, List.set_cons_zero, List.set_cons_succ]
    refine quiet_val 82 rfl (by kernel_rfl) (fun w' hw' => exec_load_arr _ _ rfl gl 0 rfl _ (u8s Q1) (blk_range (Bl.out.below hw' Bl.out.lt) 0 _ (fun j u hu => by rw [Nat.zero_add]; exact hu)) Tryd.underlying23 rfl (by rw [u8s_len, HQL.out]; exact size_key) |>.trans (by rw [HQV.out])) ?_
    simp only [Act.put, List.setIfInBounds_toArray, List.set_cons_zero, List.set_cons_succ]
    refine quiet_val 83 rfl (by kernel_rfl) (fun w' hw' => exec_load_arr _ _ rfl gx 0 rfl _ (u8s X1) (blk_range (Bx.out.below hw' Bx.out.lt) 0 _ (fun j u hu => by rw [Nat.zero_add]; exact hu)) Tryd.underlying23 rfl (by rw [u8s_len, HXL.out]; exact size_key) |>.trans (by rw [HXV.out])) ?_
    simp only [Act.put, List.setIfInBounds_toArray, List.set_cons_zero, List.set_cons_succ]
    refine quiet_val 84 rfl (by kernel_rfl) (fun w' hw' => exec_move _ rfl (.int .i64 n) rfl) ?_
    simp only [Act.put, List.setIfInBounds_toArray, List.set_cons_zero, List.set_cons_succ]
    refine quiet_call 85 rfl (by kernel_rfl) 38 #[QV, XV, .int .i64 n] (fun w' => exec_call _ _ _ rfl _ (by simp [Act.eval]) (by go_simp)) (fun w' hw' => calls_below hw' (by have hc := Renewal_ref Q1 X1 n w' HQL.out HQB.out HXL.out HXB.out hnr; rw [HQV.out, HXV.out, HRN.out, HRNV.out] at hc; exact hc)) ?_
    simp only [Act.put, List.setIfInBounds_toArray, List.set_cons_zero, List.set_cons_succ]
    refine quiet_val 86 rfl (by kernel_rfl) (fun w' hw' => exec_eql_key _ _ _ rfl RN HRNL.out (by exact HRNV.out.symm) (by exact HRNV.out.symm)) ?_
    simp only [Act.put, List.setIfInBounds_toArray, List.set_cons_zero, List.set_cons_succ]
    refine quiet_val 87 rfl (by kernel_rfl) (fun w' hw' => exec_pick_t _ _ _ rfl rfl (.bool true) rfl) ?_
    simp only [Act.put, List.setIfInBounds_toArray, List.set_cons_zero, List.set_cons_succ]
    refine quiet_val 88 rfl (by kernel_rfl) (fun w' hw' => exec_move _ rfl (.bool true) rfl) ?_
    simp only [Act.put, List.setIfInBounds_toArray, List.set_cons_zero, List.set_cons_succ]
    refine quiet_call 89 rfl (by kernel_rfl) 18 #[] (fun w' => exec_call _ _ _ rfl _ (by simp [Act.eval]) (by go_simp)) (fun w' hw' => calls_below hw' (wakes13 w' ((HT.out.below (HW.out.trans (hw'.mono HW.out.size)) (Nat.le_refl _)).more (HW.out.trans (hw'.mono HW.out.size)).size))) ?_
    simp only [Act.put, List.setIfInBounds_toArray, List.set_cons_zero, List.set_cons_succ]
    refine quiet_val 90 rfl (by kernel_rfl) (fun w' hw' => exec_pick_t _ _ _ rfl rfl (.bool true) rfl) ?_
    simp only [Act.put, List.setIfInBounds_toArray, List.set_cons_zero, List.set_cons_succ]
    refine quiet_val 14 rfl (by kernel_rfl) (fun w' hw' => exec_assign _ rfl (.bool true) rfl) ?_
    simp only [Act.put, List.setIfInBounds_toArray, List.set_cons_zero, List.set_cons_succ]
    refine wpQuiet_nil ?_
    intro w9 hb9
    replace HW := hide (HW.out.trans (hb9.mono HW.out.size))
    go_wp2_with fail
    go_ret
    exact ⟨rfl, HW.out⟩
  case true =>
    go_wp2_with (first
        | (refine wpList_cap_putAll _ _ rfl rfl rfl B0.out D lc EVd_.out.symm HDK.out HDF.out LOc.out ?_; intro w7 hb7 hg7 hs7; have hbt := (Below.refl gc _).grown hg7 (by have := B0.out.lt; omega) (by intro k hk; simp at hk; omega); replace B0 := hide hb7; replace HO := hide (HO.out.below hbt (by omega)); replace Bq := hide (Bq.out.grown hg7 (by intro h; injection h with h; omega)); replace Bl := hide (Bl.out.grown hg7 (by intro h; injection h with h; omega)); replace Bx := hide (Bx.out.grown hg7 (by intro h; injection h with h; omega)); replace Bf := hide (Bf.out.grown hg7 (by intro h; injection h with h; omega)); replace HW := hide (HW.out.grown hg7 HW.out.size (by intro k hk; simp at hk; omega)); have hz7 : gf + 1 ≤ w7.heap.size := (by omega); clear hb7 hg7 hs7 hbt)
        | (refine wpList_cap_all _ rfl rfl rfl B0.out ?_; rw [EVd_.out]))
    have hcall := right_any D lc w7 HCI.out (HO.out.more (by omega))
    rw [EVd_.out] at hcall
    have hwf := right_wf HCI.out.toWf
    have hlit := right_lit D
    obtain ⟨C, EC⟩ : ∃ x, Hid (rightF D = x) := ⟨_, hide rfl⟩
    rw [EC.out] at hcall hwf hlit
    have HWF := hide hwf
    have HCK := hide hwf.keyL
    have HCF := hide hwf.fpL
    have hlitn : C.lit.length ≤ 1000000 := by omega
    clear hwf hlit
    refine hcall.mono ?_
    clear hcall
    rintro e w8 ⟨lq, rfl, ho, hb⟩
    have hz8 := hb.size
    replace B0 := hide (B0.out.below hb B0.out.lt)
    replace Bq := hide (Bq.out.below hb Bq.out.lt)
    replace Bl := hide (Bl.out.below hb Bl.out.lt)
    replace Bx := hide (Bx.out.below hb Bx.out.lt)
    replace Bf := hide (Bf.out.below hb Bf.out.lt)
    replace HW := hide (HW.out.trans (hb.mono HW.out.size))
    have HOq := hide ho
    have LOq := hide (own_one ho lq (by simp))
    clear hb ho
    obtain ⟨Vc, EVc⟩ : ∃ x, Hid (capV C lq = x) := ⟨_, hide rfl⟩
    rw [EVc.out]
    obtain ⟨m0, hm0⟩ : ∃ n, w8.heap.size = n := ⟨_, rfl⟩
    have hgm : gf < m0 := by omega
    obtain ⟨E1, HE1⟩ : ∃ x, Hid (dirE C = x) := ⟨_, hide rfl⟩
    obtain ⟨E2, HE2⟩ : ∃ x, Hid (enE C = x) := ⟨_, hide rfl⟩
    obtain ⟨Cd, HCD⟩ : ∃ x, Hid (dirF C = x) := ⟨_, hide rfl⟩
    obtain ⟨EN, HEN⟩ : ∃ x, Hid (enF C n = x) := ⟨_, hide rfl⟩
    have WD := hide (show Cd.Wf by rw [← HCD.out]; exact dirF_wf HWF.out)
    have HENL := hide (show EN.length = 16 by rw [← HEN.out]; exact enF_len _ _)
    have HSD := hide (sameF_self Cd)
    go_wp2_with (first
        | (refine wpList_cap_putAll _ _ rfl rfl rfl B0.out C lq EVc.out.symm HCK.out HCF.out LOq.out ?_; intro w9_ hb5 hg5 hs5; have Bc := hide hb5; have hO5 := HOq.out.kept hg5 (.inr (by rintro h; exact own_ne_blk HOq.out B0.out.blk (by decide) h.symm)); have Lc := hide (show Bs w9_ m0 lq C.lit from (by have := Own8.reads (w := w9_) hO5; rw [hs5, hm0] at this; exact this)); replace Bq := hide (Bq.out.grown hg5 (by intro h; injection h with h; omega)); replace Bl := hide (Bl.out.grown hg5 (by intro h; injection h with h; omega)); replace Bx := hide (Bx.out.grown hg5 (by intro h; injection h with h; omega)); replace Bf := hide (Bf.out.grown hg5 (by intro h; injection h with h; omega)); replace HW := hide (HW.out.grown hg5 HW.out.size (by intro k hk; simp at hk; omega)); have hz9 : m0 ≤ w9_.heap.size := (by omega); clear hb5 hg5 hs5 B0 HOq)
        | (refine wpList_cap_all _ rfl rfl rfl Bc.out ?_; rw [EVc.out]))
    have hcall := Dir_any C lq w9_ HWF.out (Lc.out.more (by omega)) hlitn
    rw [EVc.out, HCD.out, HE1.out] at hcall
    refine hcall.mono ?_
    clear hcall
    rintro e wc1 ⟨ld_, rfl, hl, hb⟩
    have hz1 := hb.size
    replace Lc := hide (Lc.out.below hb (by have := Bc.out.lt; omega))
    replace Bq := hide (Bq.out.below hb Bq.out.lt)
    replace Bl := hide (Bl.out.below hb Bl.out.lt)
    replace Bx := hide (Bx.out.below hb Bx.out.lt)
    replace Bf := hide (Bf.out.below hb Bf.out.lt)
    replace Bc := hide (Bc.out.below hb Bc.out.lt)
    replace HW := hide (HW.out.trans (hb.mono HW.out.size))
    have Ld := hide hl
    have LOd := hide hl.one
    clear hl
    clear hb
    obtain ⟨Vd, EVd⟩ : ∃ x, Hid (capV Cd ld_ = x) := ⟨_, hide rfl⟩
    rw [EVd.out]
    obtain ⟨gd, hgd⟩ : ∃ n, wc1.heap.size = n := ⟨_, rfl⟩
    have hwgd : w.heap.size ≤ gd := by have := HW.out.size; omega
    have hgqgd : gq < gd := by have := Bq.out.lt; omega
    have hglgd : gl < gd := by have := Bl.out.lt; omega
    have hgxgd : gx < gd := by have := Bx.out.lt; omega
    have hgfgd : gf < gd := by have := Bf.out.lt; omega
    have hgcgd : gc < gd := by have := Bc.out.lt; omega
    rw [hgd] at Ld
    go_wp2_with (first
        | (refine wpList_cap_zero rfl rfl ?_; intro wa1 hba hwa hsa; rw [hgd] at hba hwa hsa; try rw [hgd]; have Bd := hide hba; replace Lc := hide (Lc.out.below hwa (by omega)); replace Ld := hide (Ld.out.below hwa (by omega)); replace Bq := hide (Bq.out.below hwa (by omega)); replace Bl := hide (Bl.out.below hwa (by omega)); replace Bx := hide (Bx.out.below hwa (by omega)); replace Bf := hide (Bf.out.below hwa (by omega)); replace Bc := hide (Bc.out.below hwa (by omega)); replace HW := hide (HW.out.trans (hwa.mono (by omega))); have hza1 : gd + 1 ≤ wa1.heap.size := (by omega); clear hba hwa hsa)
        | (refine wpList_cap_putAll _ _ rfl rfl rfl Bd.out Cd ld_ EVd.out.symm WD.out.keyL WD.out.fpL LOd.out ?_; intro ws1 hbs hgs hss; have hbt := (Below.refl gd _).grown hgs (by have := Bd.out.lt; omega) (by intro k hk; simp at hk; omega); replace Lc := hide (Lc.out.below hbt (by omega)); replace Bq := hide (Bq.out.grown hgs (by intro h; injection h with h; omega)); replace Bl := hide (Bl.out.grown hgs (by intro h; injection h with h; omega)); replace Bx := hide (Bx.out.grown hgs (by intro h; injection h with h; omega)); replace Bf := hide (Bf.out.grown hgs (by intro h; injection h with h; omega)); replace Bc := hide (Bc.out.grown hgs (by intro h; injection h with h; omega)); replace HW := hide (HW.out.grown hgs HW.out.size (by intro k hk; simp at hk; omega)); replace Ld := hide (Ld.out.below hbt (by omega)); clear hbt; replace Bd := hide hbs; have hzs1 : gd + 1 ≤ ws1.heap.size := (by omega); clear hbs hgs hss)
        | (refine wpList_cap_all _ rfl rfl rfl Bc.out ?_; rw [EVc.out]))
    have hcall := Dir_ref C lq ws1 HWF.out (Lc.out.more (by omega)) hlitn
    rw [EVc.out, HCD.out, HE1.out] at hcall
    refine hcall.mono ?_
    clear hcall
    rintro e wc2 ⟨le_, rfl, hl, hb⟩
    have hz2 := hb.size
    replace Lc := hide (Lc.out.below hb (by have := Bc.out.lt; omega))
    replace Ld := hide (Ld.out.below hb (by have := Bd.out.lt; omega))
    replace Bq := hide (Bq.out.below hb Bq.out.lt)
    replace Bl := hide (Bl.out.below hb Bl.out.lt)
    replace Bx := hide (Bx.out.below hb Bx.out.lt)
    replace Bf := hide (Bf.out.below hb Bf.out.lt)
    replace Bc := hide (Bc.out.below hb Bc.out.lt)
    replace Bd := hide (Bd.out.below hb Bd.out.lt)
    replace HW := hide (HW.out.trans (hb.mono HW.out.size))
    have Le := hide hl
    have LOe := hide hl.one
    clear hl
    clear hb
    obtain ⟨Ve, EVe⟩ : ∃ x, Hid (capV Cd le_ = x) := ⟨_, hide rfl⟩
    rw [EVe.out]
    obtain ⟨ge, hge⟩ : ∃ n, wc2.heap.size = n := ⟨_, rfl⟩
    have hwge : w.heap.size ≤ ge := by have := HW.out.size; omega
    have hgqge : gq < ge := by have := Bq.out.lt; omega
    have hglge : gl < ge := by have := Bl.out.lt; omega
    have hgxge : gx < ge := by have := Bx.out.lt; omega
    have hgfge : gf < ge := by have := Bf.out.lt; omega
    have hgcge : gc < ge := by have := Bc.out.lt; omega
    have hgdge : gd < ge := by have := Bd.out.lt; omega
    rw [hge] at Le
    go_wp2_with (first
        | (refine wpList_cap_zero rfl rfl ?_; intro wa2 hba hwa hsa; rw [hge] at hba hwa hsa; try rw [hge]; have Be := hide hba; replace Lc := hide (Lc.out.below hwa (by omega)); replace Ld := hide (Ld.out.below hwa (by omega)); replace Le := hide (Le.out.below hwa (by omega)); replace Bq := hide (Bq.out.below hwa (by omega)); replace Bl := hide (Bl.out.below hwa (by omega)); replace Bx := hide (Bx.out.below hwa (by omega)); replace Bf := hide (Bf.out.below hwa (by omega)); replace Bc := hide (Bc.out.below hwa (by omega)); replace Bd := hide (Bd.out.below hwa (by omega)); replace HW := hide (HW.out.trans (hwa.mono (by omega))); have hza2 : ge + 1 ≤ wa2.heap.size := (by omega); clear hba hwa hsa)
        | (refine wpList_cap_putAll _ _ rfl rfl rfl Be.out Cd le_ EVe.out.symm WD.out.keyL WD.out.fpL LOe.out ?_; intro ws2 hbs hgs hss; have hbt := (Below.refl ge _).grown hgs (by have := Be.out.lt; omega) (by intro k hk; simp at hk; omega); replace Lc := hide (Lc.out.below hbt (by omega)); replace Ld := hide (Ld.out.below hbt (by omega)); replace Bq := hide (Bq.out.grown hgs (by intro h; injection h with h; omega)); replace Bl := hide (Bl.out.grown hgs (by intro h; injection h with h; omega)); replace Bx := hide (Bx.out.grown hgs (by intro h; injection h with h; omega)); replace Bf := hide (Bf.out.grown hgs (by intro h; injection h with h; omega)); replace Bc := hide (Bc.out.grown hgs (by intro h; injection h with h; omega)); replace Bd := hide (Bd.out.grown hgs (by intro h; injection h with h; omega)); replace HW := hide (HW.out.grown hgs HW.out.size (by intro k hk; simp at hk; omega)); replace Le := hide (Le.out.below hbt (by omega)); clear hbt; replace Be := hide hbs; have hzs2 : ge + 1 ≤ ws2.heap.size := (by omega); clear hbs hgs hss)
        | (refine wpList_cap_all _ rfl rfl rfl Bc.out ?_; rw [EVc.out]))
    have hcall := Enabler_any C lq n ws2 HWF.out (Lc.out.more (by omega)) hlitn ((HT.out.below HW.out (Nat.le_refl _)).more HW.out.size) hnr
    rw [EVc.out, HEN.out, HE2.out] at hcall
    refine hcall.mono ?_
    clear hcall
    rintro e wc3 ⟨rfl, hb⟩
    have hz3 := hb.size
    replace Lc := hide (Lc.out.below hb (by have := Bc.out.lt; omega))
    replace Ld := hide (Ld.out.below hb (by have := Bd.out.lt; omega))
    replace Le := hide (Le.out.below hb (by have := Be.out.lt; omega))
    replace Bq := hide (Bq.out.below hb Bq.out.lt)
    replace Bl := hide (Bl.out.below hb Bl.out.lt)
    replace Bx := hide (Bx.out.below hb Bx.out.lt)
    replace Bf := hide (Bf.out.below hb Bf.out.lt)
    replace Bc := hide (Bc.out.below hb Bc.out.lt)
    replace Bd := hide (Bd.out.below hb Bd.out.lt)
    replace Be := hide (Be.out.below hb Be.out.lt)
    replace HW := hide (HW.out.trans (hb.mono HW.out.size))
    clear hb
    obtain ⟨ga, hga⟩ : ∃ n, wc3.heap.size = n := ⟨_, rfl⟩
    have hwga : w.heap.size ≤ ga := by have := HW.out.size; omega
    have hgqga : gq < ga := by have := Bq.out.lt; omega
    have hglga : gl < ga := by have := Bl.out.lt; omega
    have hgxga : gx < ga := by have := Bx.out.lt; omega
    have hgfga : gf < ga := by have := Bf.out.lt; omega
    have hgcga : gc < ga := by have := Bc.out.lt; omega
    have hgdga : gd < ga := by have := Bd.out.lt; omega
    have hgega : ge < ga := by have := Be.out.lt; omega
    go_wp2_with (first
        | (refine wpList_alloc_blk rfl 23 rfl _ zero_key ?_; intro wa3 hba hwa hsa; rw [hga] at hba hwa hsa; try rw [hga]; have Ba := hide hba; replace Lc := hide (Lc.out.below hwa (by omega)); replace Ld := hide (Ld.out.below hwa (by omega)); replace Le := hide (Le.out.below hwa (by omega)); replace Bq := hide (Bq.out.below hwa (by omega)); replace Bl := hide (Bl.out.below hwa (by omega)); replace Bx := hide (Bx.out.below hwa (by omega)); replace Bf := hide (Bf.out.below hwa (by omega)); replace Bc := hide (Bc.out.below hwa (by omega)); replace Bd := hide (Bd.out.below hwa (by omega)); replace Be := hide (Be.out.below hwa (by omega)); replace HW := hide (HW.out.trans (hwa.mono (by omega))); have hza3 : ga + 1 ≤ wa3.heap.size := (by omega); clear hba hwa hsa)
        | (refine wpList_store_blk rfl 23 _ _ rfl ga 0 (u8s EN) rfl (by exact rfl) _ _ Ba.out (by rw [u8s_len, u8s_len, HENL.out]; simp) (by rw [u8s_len, HENL.out]; exact size_key) (u8s_one _) ?_; intro ws3 hbs hgs hss; rw [lset_all _ _ (by rw [u8s_len, u8s_len, HENL.out]; rfl)] at hbs; have hbt := (Below.refl ga _).grown hgs (by have := Ba.out.lt; omega) (by intro k hk; simp at hk; omega); replace Lc := hide (Lc.out.below hbt (by omega)); replace Ld := hide (Ld.out.below hbt (by omega)); replace Le := hide (Le.out.below hbt (by omega)); replace Bq := hide (Bq.out.grown hgs (by intro h; injection h with h; omega)); replace Bl := hide (Bl.out.grown hgs (by intro h; injection h with h; omega)); replace Bx := hide (Bx.out.grown hgs (by intro h; injection h with h; omega)); replace Bf := hide (Bf.out.grown hgs (by intro h; injection h with h; omega)); replace Bc := hide (Bc.out.grown hgs (by intro h; injection h with h; omega)); replace Bd := hide (Bd.out.grown hgs (by intro h; injection h with h; omega)); replace Be := hide (Be.out.grown hgs (by intro h; injection h with h; omega)); replace HW := hide (HW.out.grown hgs HW.out.size (by intro k hk; simp at hk; omega)); clear hbt; replace Ba := hide hbs; have hzs3 : ga + 1 ≤ ws3.heap.size := (by omega); clear hbs hgs hss)
        | (refine wpList_cap_all _ rfl rfl rfl Bc.out ?_; rw [EVc.out]))
    have hcall := Enabler_ref C lq n ws3 HWF.out (Lc.out.more (by omega)) hlitn hnr
    rw [EVc.out, HEN.out, HE2.out] at hcall
    refine hcall.mono ?_
    clear hcall
    rintro e wc4 ⟨rfl, hb⟩
    have hz4 := hb.size
    replace Lc := hide (Lc.out.below hb (by have := Bc.out.lt; omega))
    replace Ld := hide (Ld.out.below hb (by have := Bd.out.lt; omega))
    replace Le := hide (Le.out.below hb (by have := Be.out.lt; omega))
    replace Bq := hide (Bq.out.below hb Bq.out.lt)
    replace Bl := hide (Bl.out.below hb Bl.out.lt)
    replace Bx := hide (Bx.out.below hb Bx.out.lt)
    replace Bf := hide (Bf.out.below hb Bf.out.lt)
    replace Bc := hide (Bc.out.below hb Bc.out.lt)
    replace Bd := hide (Bd.out.below hb Bd.out.lt)
    replace Be := hide (Be.out.below hb Be.out.lt)
    replace Ba := hide (Ba.out.below hb Ba.out.lt)
    replace HW := hide (HW.out.trans (hb.mono HW.out.size))
    clear hb
    obtain ⟨gb, hgb⟩ : ∃ n, wc4.heap.size = n := ⟨_, rfl⟩
    have hwgb : w.heap.size ≤ gb := by have := HW.out.size; omega
    have hgqgb : gq < gb := by have := Bq.out.lt; omega
    have hglgb : gl < gb := by have := Bl.out.lt; omega
    have hgxgb : gx < gb := by have := Bx.out.lt; omega
    have hgfgb : gf < gb := by have := Bf.out.lt; omega
    have hgcgb : gc < gb := by have := Bc.out.lt; omega
    have hgdgb : gd < gb := by have := Bd.out.lt; omega
    have hgegb : ge < gb := by have := Be.out.lt; omega
    have hgagb : ga < gb := by have := Ba.out.lt; omega
    go_upto_region 8 with (first
        | go_skip
        | (refine wpList_alloc_blk rfl 23 rfl _ zero_key ?_; intro wa4 hba hwa hsa; rw [hgb] at hba hwa hsa; try rw [hgb]; have Bb := hide hba; replace Lc := hide (Lc.out.below hwa (by omega)); replace Ld := hide (Ld.out.below hwa (by omega)); replace Le := hide (Le.out.below hwa (by omega)); replace Bq := hide (Bq.out.below hwa (by omega)); replace Bl := hide (Bl.out.below hwa (by omega)); replace Bx := hide (Bx.out.below hwa (by omega)); replace Bf := hide (Bf.out.below hwa (by omega)); replace Bc := hide (Bc.out.below hwa (by omega)); replace Bd := hide (Bd.out.below hwa (by omega)); replace Be := hide (Be.out.below hwa (by omega)); replace Ba := hide (Ba.out.below hwa (by omega)); replace HW := hide (HW.out.trans (hwa.mono (by omega))); have hza4 : gb + 1 ≤ wa4.heap.size := (by omega); clear hba hwa hsa)
        | (refine wpList_store_blk rfl 23 _ _ rfl gb 0 (u8s EN) rfl (by exact rfl) _ _ Bb.out (by rw [u8s_len, u8s_len, HENL.out]; simp) (by rw [u8s_len, HENL.out]; exact size_key) (u8s_one _) ?_; intro ws4 hbs hgs hss; rw [lset_all _ _ (by rw [u8s_len, u8s_len, HENL.out]; rfl)] at hbs; have hbt := (Below.refl gb _).grown hgs (by have := Bb.out.lt; omega) (by intro k hk; simp at hk; omega); replace Lc := hide (Lc.out.below hbt (by omega)); replace Ld := hide (Ld.out.below hbt (by omega)); replace Le := hide (Le.out.below hbt (by omega)); replace Bq := hide (Bq.out.grown hgs (by intro h; injection h with h; omega)); replace Bl := hide (Bl.out.grown hgs (by intro h; injection h with h; omega)); replace Bx := hide (Bx.out.grown hgs (by intro h; injection h with h; omega)); replace Bf := hide (Bf.out.grown hgs (by intro h; injection h with h; omega)); replace Bc := hide (Bc.out.grown hgs (by intro h; injection h with h; omega)); replace Bd := hide (Bd.out.grown hgs (by intro h; injection h with h; omega)); replace Be := hide (Be.out.grown hgs (by intro h; injection h with h; omega)); replace Ba := hide (Ba.out.grown hgs (by intro h; injection h with h; omega)); replace HW := hide (HW.out.grown hgs HW.out.size (by intro k hk; simp at hk; omega)); clear hbt; replace Bb := hide hbs; have hzs4 : gb + 1 ≤ ws4.heap.size := (by omega); clear hbs hgs hss))
    refine wp_region_quietC (fun w' => Below ws4.heap.size ws4 w') (by kernel_rfl) (by kernel_rfl) (Below.refl _ _).drew ?_
    refine quiet_val 50 rfl (by kernel_rfl) (fun w' hw' => exec_load_arr _ _ rfl gq 0 rfl _ (u8s S) (blk_range (Bq.out.below hw' Bq.out.lt) 0 _ (fun j u hu => by rw [Nat.zero_add]; exact hu)) Tryd.underlying23 rfl (by rw [u8s_len, HSL.out]; exact size_key) |>.trans (by rw [HSV.out])) ?_
    simp only [Act.put, List.setIfInBounds_toArray, List.set_cons_zero, List.set_cons_succ]
    refine quiet_val 51 rfl (by kernel_rfl) (fun w' hw' => exec_load_arr _ _ rfl gf 0 rfl _ (u8s P) (blk_range (Bf.out.below hw' Bf.out.lt) 0 _ (fun j u hu => by rw [Nat.zero_add]; exact hu)) Tryd.underlying25 rfl (by rw [u8s_len, HPL.out]; exact size_hash) |>.trans (by rw [HPV.out])) ?_
    simp only [Act.put, List.setIfInBounds_toArray, List.set_cons_zero, List.set_cons_succ]
    refine quiet_call 52 rfl (by kernel_rfl) 35 #[SV, PV] (fun w' => exec_call _ _ _ rfl _ (by simp [Act.eval]) (by go_simp)) (fun w' hw' => calls_below hw' (by have hc := Slot_any S P w' HSL.out HSB.out HPL.out ((HT.out.below (HW.out.trans (hw'.mono HW.out.size)) (Nat.le_refl _)).more (HW.out.trans (hw'.mono HW.out.size)).size); rw [HSV.out, HPV.out, HCS.out, HSLV.out] at hc; exact hc)) ?_
    simp only [Act.put, List.setIfInBounds_toArray, List.set_cons_zero, List.set_cons_succ]
    refine quiet_val 53 rfl (by kernel_rfl) (fun w' hw' => exec_load_arr _ _ rfl gq 0 rfl _ (u8s S) (blk_range (Bq.out.below hw' Bq.out.lt) 0 _ (fun j u hu => by rw [Nat.zero_add]; exact hu)) Tryd.underlying23 rfl (by rw [u8s_len, HSL.out]; exact size_key) |>.trans (by rw [HSV.out])) ?_
    simp only [Act.put, List.setIfInBounds_toArray, List.set_cons_zero, List.set_cons_succ]
    refine quiet_val 54 rfl (by kernel_rfl) (fun w' hw' => exec_load_arr _ _ rfl gf 0 rfl _ (u8s P) (blk_range (Bf.out.below hw' Bf.out.lt) 0 _ (fun j u hu => by rw [Nat.zero_add]; exact hu)) Tryd.underlying25 rfl (by rw [u8s_len, HPL.out]; exact size_hash) |>.trans (by rw [HPV.out])) ?_
    simp only [Act.put, List.setIfInBounds_toArray, List.set_cons_zero, List.set_cons_succ]
    refine quiet_call 55 rfl (by kernel_rfl) 36 #[SV, PV] (fun w' => exec_call _ _ _ rfl _ (by simp [Act.eval]) (by go_simp)) (fun w' hw' => calls_below hw' (by have hc := Slot_ref S P w' HSL.out HSB.out HPL.out; rw [HSV.out, HPV.out, HCS.out, HSLV.out] at hc; exact hc)) ?_
    simp only [Act.put, List.setIfInBounds_toArray, List.set_cons_zero, List.set_cons_succ]
    refine quiet_call 56 rfl (by kernel_rfl) 27 #[SLV, SLV] (fun w' => exec_call _ _ _ rfl _ (by simp [Act.eval]) (by go_simp)) (fun w' hw' => calls_below hw' (by have hc := same_cap Cs Cs (.slice none 0 0) (.slice none 0 0) w' WS.out.keyL WS.out.fpL WS.out.keyL WS.out.fpL (by rw [HSN.out]; exact Bs.nil_ _ _) (by rw [HSN.out]; exact Bs.nil_ _ _) WS.out.litB WS.out.litB; rw [HSLV.out, HSS.out] at hc; exact hc)) ?_
    simp only [Act.put, List.setIfInBounds_toArray, List.set_cons_zero, List.set_cons_succ]
    refine quiet_val 57 rfl (by kernel_rfl) (fun w' hw' => exec_move _ rfl (.bool true) rfl) ?_
    simp only [Act.put, List.setIfInBounds_toArray, List.set_cons_zero, List.set_cons_succ]
    refine quiet_val 58 rfl (by kernel_rfl) (fun w' hw' => exec_move _ rfl (.int .i64 E1) rfl) ?_
    simp only [Act.put, List.setIfInBounds_toArray, List.set_cons_zero, List.set_cons_succ]
    refine quiet_val 59 rfl (by kernel_rfl) (fun w' hw' => exec_move _ rfl (.int .i64 E1) rfl) ?_
    simp only [Act.put, List.setIfInBounds_toArray, List.set_cons_zero, List.set_cons_succ]
    refine quiet_val 60 rfl (by kernel_rfl) (fun w' hw' => exec_eql_err _ _ _ rfl E1 rfl rfl) ?_
    simp only [Act.put, List.setIfInBounds_toArray, List.set_cons_zero, List.set_cons_succ]
    refine quiet_val 61 rfl (by kernel_rfl) (fun w' hw' => exec_pick_t _ _ _ rfl rfl (.bool true) rfl) ?_
    simp only [Act.put, List.setIfInBounds_toArray, List.set_cons_zero, List.set_cons_succ]
    refine quiet_val 62 rfl (by kernel_rfl) (fun w' hw' => exec_move _ rfl (.bool true) rfl) ?_
    simp only [Act.put, List.setIfInBounds_toArray, List.set_cons_zero, List.set_cons_succ]
    refine quiet_val 63 rfl (by kernel_rfl) (fun w' hw' => exec_load_arr _ _ rfl gd 0 rfl _ (capCells Cd ld_) (blk_range (Bd.out.below hw' Bd.out.lt).blk 0 _ (fun j u hu => by rw [Nat.zero_add]; exact hu)) Tryd.underlying28 rfl (by rw [cc_len ld_ Bd.out.keyL Bd.out.fpL]; exact size_cap) |>.trans (by rw [show Value.agg (capCells Cd ld_).toArray = Vd from EVd.out])) ?_
    simp only [Act.put, List.setIfInBounds_toArray, List.set_cons_zero, List.set_cons_succ]
    refine quiet_val 64 rfl (by kernel_rfl) (fun w' hw' => exec_load_arr _ _ rfl ge 0 rfl _ (capCells Cd le_) (blk_range (Be.out.below hw' Be.out.lt).blk 0 _ (fun j u hu => by rw [Nat.zero_add]; exact hu)) Tryd.underlying28 rfl (by rw [cc_len le_ Be.out.keyL Be.out.fpL]; exact size_cap) |>.trans (by rw [show Value.agg (capCells Cd le_).toArray = Ve from EVe.out])) ?_
    simp only [Act.put, List.setIfInBounds_toArray, List.set_cons_zero, List.set_cons_succ]
    refine quiet_call 65 rfl (by kernel_rfl) 27 #[Vd, Ve] (fun w' => exec_call _ _ _ rfl _ (by simp [Act.eval]) (by go_simp)) (fun w' hw' => calls_below hw' (by have hc := same_cap Cd Cd ld_ le_ w' WD.out.keyL WD.out.fpL WD.out.keyL WD.out.fpL ((Ld.out.below hw' (by have := Bd.out.lt; omega)).more (by have := Bd.out.lt; have := hw'.size; omega)) ((Le.out.below hw' (by have := Be.out.lt; omega)).more (by have := Be.out.lt; have := hw'.size; omega)) WD.out.litB WD.out.litB; rw [EVd.out, EVe.out, HSD.out] at hc; exact hc)) ?_
    simp only [Act.put, List.setIfInBounds_toArray, List.set_cons_zero, List.set_cons_succ]
    refine quiet_val 66 rfl (by kernel_rfl) (fun w' hw' => exec_pick_t _ _ _ rfl rfl (.bool true) rfl) ?_
    simp only [Act.put, List.setIfInBounds_toArray, List.set_cons_zero, List.set_cons_succ]
    refine quiet_val 67 rfl (by kernel_rfl) (fun w' hw' => exec_move _ rfl (.bool true) rfl) ?_
    simp only [Act.put, List.setIfInBounds_toArray, List.set_cons_zero, List.set_cons_succ]
    refine quiet_val 68 rfl (by kernel_rfl) (fun w' hw' => exec_move _ rfl (.int .i64 E2) rfl) ?_
    simp only [Act.put, List.setIfInBounds_toArray, List.set_cons_zero, List.set_cons_succ]
    refine quiet_val 69 rfl (by kernel_rfl) (fun w' hw' => exec_move _ rfl (.int .i64 E2) rfl) ?_
    simp only [Act.put, List.setIfInBounds_toArray, List.set_cons_zero, List.set_cons_succ]
    refine quiet_val 70 rfl (by kernel_rfl) (fun w' hw' => exec_eql_err _ _ _ rfl E2 rfl rfl) ?_
    simp only [Act.put, List.setIfInBounds_toArray, List.set_cons_zero, List.set_cons_succ]
    refine quiet_val 71 rfl (by kernel_rfl) (fun w' hw' => exec_pick_t _ _ _ rfl rfl (.bool true) rfl) ?_
    simp only [Act.put, List.setIfInBounds_toArray, List.set_cons_zero, List.set_cons_succ]
    refine quiet_val 72 rfl (by kernel_rfl) (fun w' hw' => exec_move _ rfl (.bool true) rfl) ?_
    simp only [Act.put, List.setIfInBounds_toArray, List.set_cons_zero, List.set_cons_succ]
    refine quiet_val 73 rfl (by kernel_rfl) (fun w' hw' => exec_load_arr _ _ rfl ga 0 rfl _ (u8s EN) (blk_range (Ba.out.below hw' Ba.out.lt) 0 _ (fun j u hu => by rw [Nat.zero_add]; exact hu)) Tryd.underlying23 rfl (by rw [u8s_len, HENL.out]; exact size_key)) ?_
    simp only [Act.put, List.setIfInBounds_toArray, List.set_cons_zero, List.set_cons_succ]
    refine quiet_val 74 rfl (by kernel_rfl) (fun w' hw' => exec_load_arr _ _ rfl gb 0 rfl _ (u8s EN) (blk_range (Bb.out.below hw' Bb.out.lt) 0 _ (fun j u hu => by rw [Nat.zero_add]; exact hu)) Tryd.underlying23 rfl (by rw [u8s_len, HENL.out]; exact size_key)) ?_
    simp only [Act.put, List.setIfInBounds_toArray, List.set_cons_zero, List.set_cons_succ]
    refine quiet_val 75 rfl (by kernel_rfl) (fun w' hw' => exec_eql_key _ _ _ rfl EN HENL.out rfl rfl) ?_
    simp only [Act.put, List.setIfInBounds_toArray, List.set_cons_zero, List.set_cons_succ]
    refine quiet_val 76 rfl (by kernel_rfl) (fun w' hw' => exec_pick_t _ _ _ rfl rfl (.bool true) rfl) ?_
    simp only [Act.put, List.setIfInBounds_toArray, List.set_cons_zero, List.set_cons_succ]
    refine quiet_val 77 rfl (by kernel_rfl) (fun w' hw' => exec_move _ rfl (.bool true) rfl) ?_
    simp only [Act.put, List.setIfInBounds_toArray, List.set_cons_zero, List.set_cons_succ]
    refine quiet_val 78 rfl (by kernel_rfl) (fun w' hw' => exec_load_arr _ _ rfl gl 0 rfl _ (u8s Q1) (blk_range (Bl.out.below hw' Bl.out.lt) 0 _ (fun j u hu => by rw [Nat.zero_add]; exact hu)) Tryd.underlying23 rfl (by rw [u8s_len, HQL.out]; exact size_key) |>.trans (by rw [HQV.out])) ?_
    simp only [Act.put, List.setIfInBounds_toArray, List.set_cons_zero, List.set_cons_succ]
    refine quiet_val 79 rfl (by kernel_rfl) (fun w' hw' => exec_load_arr _ _ rfl gx 0 rfl _ (u8s X1) (blk_range (Bx.out.below hw' Bx.out.lt) 0 _ (fun j u hu => by rw [Nat.zero_add]; exact hu)) Tryd.underlying23 rfl (by rw [u8s_len, HXL.out]; exact size_key) |>.trans (by rw [HXV.out])) ?_
    simp only [Act.put, List.setIfInBounds_toArray, List.set_cons_zero, List.set_cons_succ]
    refine quiet_val 80 rfl (by kernel_rfl) (fun w' hw' => exec_move _ rfl (.int .i64 n) rfl) ?_
    simp only [Act.put, List.setIfInBounds_toArray, List.set_cons_zero, List.set_cons_succ]
    refine quiet_call 81 rfl (by kernel_rfl) 37 #[QV, XV, .int .i64 n] (fun w' => exec_call _ _ _ rfl _ (by simp [Act.eval]) (by go_simp)) (fun w' hw' => calls_below hw' (by have hc := Renewal_any Q1 X1 n w' HQL.out HQB.out HXL.out HXB.out ((HT.out.below (HW.out.trans (hw'.mono HW.out.size)) (Nat.le_refl _)).more (HW.out.trans (hw'.mono HW.out.size)).size) hnr; rw [HQV.out, HXV.out, HRN.out, HRNV.out] at hc; exact hc)) ?_
    simp only [Act.put, List.setIfInBounds_toArray, List.set_cons_zero, List.set_cons_succ]
    refine quiet_val 82 rfl (by kernel_rfl) (fun w' hw' => exec_load_arr _ _ rfl gl 0 rfl _ (u8s Q1) (blk_range (Bl.out.below hw' Bl.out.lt) 0 _ (fun j u hu => by rw [Nat.zero_add]; exact hu)) Tryd.underlying23 rfl (by rw [u8s_len, HQL.out]; exact size_key) |>.trans (by rw [HQV.out])) ?_
    simp only [Act.put, List.setIfInBounds_toArray, List.set_cons_zero, List.set_cons_succ]
    refine quiet_val 83 rfl (by kernel_rfl) (fun w' hw' => exec_load_arr _ _ rfl gx 0 rfl _ (u8s X1) (blk_range (Bx.out.below hw' Bx.out.lt) 0 _ (fun j u hu => by rw [Nat.zero_add]; exact hu)) Tryd.underlying23 rfl (by rw [u8s_len, HXL.out]; exact size_key) |>.trans (by rw [HXV.out])) ?_
    simp only [Act.put, List.setIfInBounds_toArray, List.set_cons_zero, List.set_cons_succ]
    refine quiet_val 84 rfl (by kernel_rfl) (fun w' hw' => exec_move _ rfl (.int .i64 n) rfl) ?_
    simp only [Act.put, List.setIfInBounds_toArray, List.set_cons_zero, List.set_cons_succ]
    refine quiet_call 85 rfl (by kernel_rfl) 38 #[QV, XV, .int .i64 n] (fun w' => exec_call _ _ _ rfl _ (by simp [Act.eval]) (by go_simp)) (fun w' hw' => calls_below hw' (by have hc := Renewal_ref Q1 X1 n w' HQL.out HQB.out HXL.out HXB.out hnr; rw [HQV.out, HXV.out, HRN.out, HRNV.out] at hc; exact hc)) ?_
    simp only [Act.put, List.setIfInBounds_toArray, List.set_cons_zero, List.set_cons_succ]
    refine quiet_val 86 rfl (by kernel_rfl) (fun w' hw' => exec_eql_key _ _ _ rfl RN HRNL.out (by exact HRNV.out.symm) (by exact HRNV.out.symm)) ?_
    simp only [Act.put, List.setIfInBounds_toArray, List.set_cons_zero, List.set_cons_succ]
    refine quiet_val 87 rfl (by kernel_rfl) (fun w' hw' => exec_pick_t _ _ _ rfl rfl (.bool true) rfl) ?_
    simp only [Act.put, List.setIfInBounds_toArray, List.set_cons_zero, List.set_cons_succ]
    refine quiet_val 88 rfl (by kernel_rfl) (fun w' hw' => exec_move _ rfl (.bool true) rfl) ?_
    simp only [Act.put, List.setIfInBounds_toArray, List.set_cons_zero, List.set_cons_succ]
    refine quiet_call 89 rfl (by kernel_rfl) 18 #[] (fun w' => exec_call _ _ _ rfl _ (by simp [Act.eval]) (by go_simp)) (fun w' hw' => calls_below hw' (wakes13 w' ((HT.out.below (HW.out.trans (hw'.mono HW.out.size)) (Nat.le_refl _)).more (HW.out.trans (hw'.mono HW.out.size)).size))) ?_
    simp only [Act.put, List.setIfInBounds_toArray, List.set_cons_zero, List.set_cons_succ]
    refine quiet_val 90 rfl (by kernel_rfl) (fun w' hw' => exec_pick_t _ _ _ rfl rfl (.bool true) rfl) ?_
    simp only [Act.put, List.setIfInBounds_toArray, List.set_cons_zero, List.set_cons_succ]
    refine quiet_val 14 rfl (by kernel_rfl) (fun w' hw' => exec_assign _ rfl (.bool true) rfl) ?_
    simp only [Act.put, List.setIfInBounds_toArray, List.set_cons_zero, List.set_cons_succ]
    refine wpQuiet_nil ?_
    intro w9 hb9
    replace HW := hide (HW.out.trans (hb9.mono HW.out.size))
    go_wp2_with fail
    go_ret
    exact ⟨rfl, HW.out⟩
set_option maxRecDepth 100000 in
theorem lifted (os : Os) (started : os.Started) (H : Type) (enc : TypeId × Value → H) :
    ReturnsInHanded {} Tryd.checked os 8 .any (fun w args => (Rows.capsMoreSpec.pre enc Tryd.prog Tryd.f8 [] false w args ∧ laidMetH Tryd.prog laidD w) ∧ sizedMet enc Tryd.prog Tryd.f8 (OpenSpec.ofChange Rows.capsMoreSpec) false w args)
      (Rows.capsMoreSpec.post enc Tryd.prog Tryd.f8 false true false false) := by
  refine returnsInHanded_of_change_and (C := Tryd.checked) (X := fun w _ => laidMetH Tryd.prog laidD w) (fun _ _ _ hh h => h.of_heap hh) own started (by kernel_rfl) Tryd.func8
    (ChangeSpec.witness_shaped (enc := enc) (C := Tryd.checked) (os := os) (X := fun w _ => laidMetH Tryd.prog laidD w) false (World.doorLaid Tryd.prog doorSteps os) #[capV CapD.none_ (.slice none 0 0), .bool false, .agg #[.int .u8 0, .int .u8 0, .int .u8 0, .int .u8 0, .int .u8 0, .int .u8 0, .int .u8 0, .int .u8 0, .int .u8 0, .int .u8 0, .int .u8 0, .int .u8 0, .int .u8 0, .int .u8 0, .int .u8 0, .int .u8 0], .agg #[.int .u8 0, .int .u8 0, .int .u8 0, .int .u8 0, .int .u8 0, .int .u8 0, .int .u8 0, .int .u8 0, .int .u8 0, .int .u8 0, .int .u8 0, .int .u8 0, .int .u8 0, .int .u8 0, .int .u8 0, .int .u8 0], .agg #[.int .u8 0, .int .u8 0, .int .u8 0, .int .u8 0, .int .u8 0, .int .u8 0, .int .u8 0, .int .u8 0, .int .u8 0, .int .u8 0, .int .u8 0, .int .u8 0, .int .u8 0, .int .u8 0, .int .u8 0, .int .u8 0], .agg #[.int .u8 0, .int .u8 0, .int .u8 0, .int .u8 0, .int .u8 0, .int .u8 0, .int .u8 0, .int .u8 0, .int .u8 0, .int .u8 0, .int .u8 0, .int .u8 0, .int .u8 0, .int .u8 0, .int .u8 0, .int .u8 0, .int .u8 0, .int .u8 0, .int .u8 0, .int .u8 0, .int .u8 0, .int .u8 0, .int .u8 0, .int .u8 0, .int .u8 0, .int .u8 0, .int .u8 0, .int .u8 0, .int .u8 0, .int .u8 0, .int .u8 0, .int .u8 0], .int .i64 0] 8 rfl (World.shaped_of_RefB (by kernel_rfl) (by kernel_rfl)) (by kernel_rfl) (by kernel_rfl) (by kernel_rfl) (door_met os _)) ?_
  intro W base args ds gs before hval0 hW _ _ hL _
  have hT := tab_of hL
  have hval : ∀ (j : Nat) t v, Tryd.f8.params[j]? = some t → args[j]? = some v → Value.okWide Tryd.prog W .any base t v := hval0
  have hW' := hW
  obtain ⟨p, q, hA0, hV, rfl, hfz, hnd⟩ := hW
  have hA : DataW.TrodAll enc Tryd.prog W 0 (fun _ => true) true Tryd.f8.params.toList args.toList ds p := hA0
  rw [Tryd.params8] at hA hval
  obtain ⟨v0, vs0, d0, ds0, p0, q0, hargs, rfl, rfl, h0, r0⟩ := trodAll_cons hA
  obtain ⟨v1, vs1, d1, ds1, p1, q1, rfl, rfl, rfl, h1, r1⟩ := trodAll_cons r0
  obtain ⟨v2, vs2, d2, ds2, p2, q2, rfl, rfl, rfl, h2, r2⟩ := trodAll_cons r1
  obtain ⟨v3, vs3, d3, ds3, p3, q3, rfl, rfl, rfl, h3, r3⟩ := trodAll_cons r2
  obtain ⟨v4, vs4, d4, ds4, p4, q4, rfl, rfl, rfl, h4, r4⟩ := trodAll_cons r3
  obtain ⟨v5, vs5, d5, ds5, p5, q5, rfl, rfl, rfl, h5, r5⟩ := trodAll_cons r4
  obtain ⟨v6, vs6, d6, ds6, p6, q6, rfl, rfl, rfl, h6, r6⟩ := trodAll_cons r5
  obtain ⟨rfl, rfl, rfl⟩ := trodAll_nil r6
  obtain rfl : args = #[v0, v1, v2, v3, v4, v5, v6] := by cases args; simp_all
  obtain ⟨rfl, rfl⟩ := trodVars_none hV
  have k0 := h0
  have lt0 : ∀ x ∈ p0, x.block < W.heap.size := by obtain ⟨m, hm⟩ := k0; exact DataW.trod_lt m _ _ _ hm
  obtain ⟨z0, l0, rfl, w0, b0⟩ := read_cap (hval 0 28 v0 rfl rfl) h0
  obtain ⟨a1, rfl, rfl, rfl⟩ := open_bool Tryd.underlying4 (hval 1 4 v1 rfl rfl) h1
  have k2 := h2
  have lt2 : ∀ x ∈ p2, x.block < W.heap.size := by obtain ⟨m, hm⟩ := k2; exact DataW.trod_lt m _ _ _ hm
  obtain ⟨z2, rfl, w2, b2⟩ := read_arr16_key (hval 2 23 v2 rfl rfl) h2
  have k3 := h3
  have lt3 : ∀ x ∈ p3, x.block < W.heap.size := by obtain ⟨m, hm⟩ := k3; exact DataW.trod_lt m _ _ _ hm
  obtain ⟨z3, rfl, w3, b3⟩ := read_arr16_key (hval 3 23 v3 rfl rfl) h3
  have k4 := h4
  have lt4 : ∀ x ∈ p4, x.block < W.heap.size := by obtain ⟨m, hm⟩ := k4; exact DataW.trod_lt m _ _ _ hm
  obtain ⟨z4, rfl, w4, b4⟩ := read_arr16_key (hval 4 23 v4 rfl rfl) h4
  have k5 := h5
  have lt5 : ∀ x ∈ p5, x.block < W.heap.size := by obtain ⟨m, hm⟩ := k5; exact DataW.trod_lt m _ _ _ hm
  obtain ⟨z5, rfl, w5, b5⟩ := read_hash_hash (hval 5 25 v5 rfl rfl) h5
  obtain ⟨a6, rfl, rfl, rfl, wf6⟩ := open_int Tryd.underlying3 (hval 6 3 v6 rfl rfl) h6
  clear hA0 hval0
  refine (walk W hT z0 l0 w0 b0 a1 z2 w2 b2 z3 w3 b3 z4 w4 b4 z5 w5 b5 a6 (in64_wf wf6)).mono fun e W' ⟨he, bel⟩ => ?_
  subst he
  exact ⟨_, rfl, _, _, _, [], _, [], hW', trodAll_mk1 (shut_bool Tryd.underlying4 _), (trodAll_cons_mk (Below.trod laidOut (by kernel_rfl) (of_decide_eq_true (by kernel_rfl)) k0 bel lt0) (trodAll_cons_mk (shut_bool Tryd.underlying4 _) (trodAll_cons_mk (Below.trod laidOut (by kernel_rfl) (of_decide_eq_true (by kernel_rfl)) k2 bel lt2) (trodAll_cons_mk (Below.trod laidOut (by kernel_rfl) (of_decide_eq_true (by kernel_rfl)) k3 bel lt3) (trodAll_cons_mk (Below.trod laidOut (by kernel_rfl) (of_decide_eq_true (by kernel_rfl)) k4 bel lt4) (trodAll_cons_mk (Below.trod laidOut (by kernel_rfl) (of_decide_eq_true (by kernel_rfl)) k5 bel lt5) (trodAll_cons_mk (shut_int Tryd.underlying3 wf6) trodAll_mk0))))))), rfl, bel.frame _, fun h => by cases h⟩

theorem over : Rows.capsMoreRow.holds Tryd.pinned (OpenSpec.ofChange Rows.capsMoreSpec) :=
  OpenClaim.holds_of_wide 8 Tryd.f8 rfl rfl rfl rfl rfl rfl rfl ⟨rfl, rfl, rfl, rfl, rfl⟩ rfl rfl rfl rfl rfl (by kernel_rfl) Tryd.func8 (by kernel_rfl)
    (of_decide_eq_true (by kernel_rfl)) (by unfold Func.isWrapper; rw [if_neg (of_decide_eq_false (by kernel_rfl))]; exact ⟨rfl, rfl⟩)
    (fun os started H enc _ => lifted os started H enc)

theorem proved : Rows.CapsMoreCardSaid :=
  Claim7.holds_tied_plain_at .later [] Rows.capsMoreCard.laidKinds true Rows.capsMoreCard.stood.harness Rows.capsMoreCard.stood.looks
    over (fun _ h => by cases h) (by kernel_rfl) (fun _ h => by cases h) capsMore_row_tie rfl ⟨rfl, rfl⟩ (by kernel_rfl) rfl
    (fun f fn hf hfn => by
      obtain rfl : f = 8 := Option.some.inj ((show Tryd.prog.funcNamed "aumbry/aumbrylaw13.CapsMore" = some 8 by kernel_rfl).symm.trans hf) |>.symm
      obtain rfl : fn = Tryd.f8 := (Option.some.inj (Tryd.func8.symm.trans hfn)).symm
      exact ⟨by kernel_rfl, fun j t ht => by
        have ht' : Tryd.f8.params[j]? = some t := ht
        rw [Tryd.params8] at ht'
        have hm : t ∈ [28, 4, 23, 23, 23, 25, 3] := by simpa using Array.mem_of_getElem? ht'
        have hall : ([28, 4, 23, 23, 23, 25, 3].all fun u => !Tryd.prog.wantsStandIn u) = true := by kernel_rfl
        exact (show Tryd.prog.wantsStandIn t = false by simpa using List.all_eq_true.1 hall t hm)⟩)
    (by kernel_rfl)
end Go.Proofs.YtgjepahhbecljaaDoor.LawCapsMore
