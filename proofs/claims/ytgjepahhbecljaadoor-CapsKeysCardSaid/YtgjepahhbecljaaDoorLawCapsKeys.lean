/-
CapsKeys holds: a slot's keys hang on its seed alone. Conditions: none but the row's own.
-/
import Derived.Test.YtgjepahhbecljaaDoorKeyLaws
import Derived.Test.YtgjepahhbecljaaDoorCapKeys
import Derived.Test.YtgjepahhbecljaaDoorCapSlot
import Derived.Test.YtgjepahhbecljaaDoorCapDir
import Derived.Test.YtgjepahhbecljaaDoorWakes13
import Derived.Test.YtgjepahhbecljaaDoorFrameHash
import Derived.Test.YtgjepahhbecljaaDoorTied
namespace Go.Proofs.YtgjepahhbecljaaDoor.LawCapsKeys
open Go Go.RowKit Go.ChangeShapes Go.WideShapes Go.ChangeAt
set_option linter.unusedVariables false
set_option maxRecDepth 100000
section
variable {ops : Array Oper} {rest : List Oper} {o : Oper} {a : Act} {w : World} {Q : Exit → Act → World → Prop}
theorem wpList_load_key {g : Nat} {k : List Int} (hgw : Region.wanted o (yielded ops a.tmps) = true) (x : Operand) (ho : o.op = .load 23 x) (hx : a.eval x = .pointer (some ⟨g, 0, none⟩)) (hB : Blk w g 23 (u8s k)) (hk : k.length = 16)
    (h : wpList Tryd.prog ops Q rest (a.put o.dst (.agg (u8s k).toArray)) w) : wpList Tryd.prog ops Q (o :: rest) a w :=
  wpList_go hgw fun _ hK => wp_load_mid _ x ho g 0 hx _ _ (blk_range hB 0 _ (fun j u hu => by rw [Nat.zero_add]; exact hu)) Tryd.underlying23 rfl (by rw [u8s_len, hk]; exact size_key) (hK _ _ h)
theorem wpList_load_hash {g : Nat} {k : List Int} (hgw : Region.wanted o (yielded ops a.tmps) = true) (x : Operand) (ho : o.op = .load 25 x) (hx : a.eval x = .pointer (some ⟨g, 0, none⟩)) (hB : Blk w g 25 (u8s k)) (hk : k.length = 32)
    (h : wpList Tryd.prog ops Q rest (a.put o.dst (.agg (u8s k).toArray)) w) : wpList Tryd.prog ops Q (o :: rest) a w :=
  wpList_go hgw fun _ hK => wp_load_mid _ x ho g 0 hx _ _ (blk_range hB 0 _ (fun j u hu => by rw [Nat.zero_add]; exact hu)) Tryd.underlying25 rfl (by rw [u8s_len, hk]; exact size_hash) (hK _ _ h)
theorem exec_eql_err (x y : Operand) (t' : TypeId) (ho : o.op = .binOp .eql 30 x y t') (p : Int) (hx : a.eval x = .int .i64 p) (hy : a.eval y = .int .i64 p) : (execOp a.eval o).run Tryd.prog w = .ok (.value (.bool true)) w := by
  unfold execOp
  simp only [ho, hx, hy]
  go_simp
theorem exec_eql_int (x y : Operand) (t' : TypeId) (ho : o.op = .binOp .eql 3 x y t') (p : Int) (hx : a.eval x = .int .i64 p) (hy : a.eval y = .int .i64 p) : (execOp a.eval o).run Tryd.prog w = .ok (.value (.bool true)) w := by
  unfold execOp
  simp only [ho, hx, hy]
  go_simp
theorem exec_pick_t (c x y : Operand) (ho : o.op = .pick c x y) (hc : a.eval c = .bool true) (v : Value) (hx : a.eval x = v) : (execOp a.eval o).run Tryd.prog w = .ok (.value v) w := by
  unfold execOp
  simp only [ho, hc, hx]
  go_simp
theorem exec_eql_key (x y : Operand) (t' : TypeId) (ho : o.op = .binOp .eql 23 x y t') (xs : List Int) (hl : xs.length = 16) (hx : a.eval x = .agg (u8s xs).toArray) (hy : a.eval y = .agg (u8s xs).toArray) : (execOp a.eval o).run Tryd.prog w = .ok (.value (.bool true)) w := by
  unfold execOp
  have := run_eql_arr (P := Tryd.prog) w Tryd.underlying23 Tryd.underlying5 (by kernel_rfl) xs xs hl hl
  simp only [ho, hx, hy, u8s, Sem.run_bind, run_eqGuard_agg w _ _ _ _ _ _ (show Tryd.prog.eqGuardType Tryd.prog.depth 23 = false by kernel_rfl), this, Result.andThen_ok, Sem.run_pure]
  simp
theorem exec_eql_hash (x y : Operand) (t' : TypeId) (ho : o.op = .binOp .eql 25 x y t') (xs : List Int) (hl : xs.length = 32) (hx : a.eval x = .agg (u8s xs).toArray) (hy : a.eval y = .agg (u8s xs).toArray) : (execOp a.eval o).run Tryd.prog w = .ok (.value (.bool true)) w := by
  unfold execOp
  have := run_eql_arr (P := Tryd.prog) w Tryd.underlying25 Tryd.underlying5 (by kernel_rfl) xs xs hl hl
  simp only [ho, hx, hy, u8s, Sem.run_bind, run_eqGuard_agg w _ _ _ _ _ _ (show Tryd.prog.eqGuardType Tryd.prog.depth 25 = false by kernel_rfl), this, Result.andThen_ok, Sem.run_pure]
  simp
end
/-- What hangs on a seed alone. -/
theorem keys_laws (seed fp : List Int) (n : Int) :
    (slotF seed fp).Valid ∧ roE (slotF seed fp) = 0 ∧ voE (slotF seed fp) = 0 ∧ dirE (slotF seed fp) = 0 ∧ voE (dirF (slotF seed fp)) = 0 ∧ enE (slotF seed fp) = 0 ∧ enE (dirF (slotF seed fp)) = 0 ∧
    (roF (slotF seed fp)).key = keyF tRead (keyF tWrite seed) ∧ (voF (slotF seed fp)).key = keyF tIndex (keyF tRead (keyF tWrite seed)) ∧ ixF (dirF (slotF seed fp)) = keyF tIndex (keyF tRead (keyF tWrite seed)) ∧
    enF (dirF (slotF seed fp)) n = enF (slotF seed fp) n ∧ (dirF (slotF seed fp)).kind = 7 ∧ (roF (slotF seed fp)).kind = 5 ∧ (voF (slotF seed fp)).kind = 6 ∧ (voF (slotF seed fp)).fp = fp ∧ (dirF (slotF seed fp)).lit = [] ∧ (dirF (slotF seed fp)).fp = fp ∧ (dirF (slotF seed fp)).key = keyF tWrite seed := by
  have hv : (slotF seed fp).Valid := .inr (.inr ⟨by show (4 : Int) ≤ 4; omega, by show (4 : Int) ≤ 9; omega, rfl, rfl, rfl, rfl⟩)
  have h3 : (slotF seed fp).kind ≠ 3 := by show (4 : Int) ≠ 3; omega
  have hw : writeF (slotF seed fp) = true := by rw [writeF_valid hv]; exact decide_eq_true (.inl rfl)
  have hr := write_read hw
  have e1 : roF (slotF seed fp) = { slotF seed fp with kind := 5, key := keyF tRead (keyF tWrite seed) } := by unfold roF; rw [if_pos hr, if_pos hw]; rfl
  have hok : (decide (slotF seed fp).Valid && ((slotF seed fp).kind != 3)) = true := by rw [decide_eq_true hv]; simp [h3]
  have e2 : voF (slotF seed fp) = { slotF seed fp with kind := 6, key := keyF tIndex (keyF tRead (keyF tWrite seed)) } := by rw [voF_read hok hr, e1]; rfl
  have hd : dirOk (slotF seed fp) = true := by
    unfold dirOk
    rw [decide_eq_true hv]
    show (true && (decide ((4 : Int) ≤ 4) && decide ((4 : Int) ≤ 6))) = true
    decide
  have e3 : dirF (slotF seed fp) = { slotF seed fp with kind := 7 } := by unfold dirF; rw [if_pos hd]; rfl
  have dv : (dirF (slotF seed fp)).Valid := by
    rw [e3]
    exact .inr (.inr ⟨by show (4 : Int) ≤ 7; omega, by show (7 : Int) ≤ 9; omega, rfl, rfl, rfl, rfl⟩)
  have d3 : (dirF (slotF seed fp)).kind ≠ 3 := by rw [e3]; show (7 : Int) ≠ 3; omega
  have dw : writeF (dirF (slotF seed fp)) = true := by rw [writeF_valid dv, e3]; exact decide_eq_true (.inr rfl)
  have dr := write_read dw
  have dok : (decide (dirF (slotF seed fp)).Valid && ((dirF (slotF seed fp)).kind != 3)) = true := by rw [decide_eq_true dv]; simp [d3]
  have e4 : (roF (dirF (slotF seed fp))).key = keyF tRead (keyF tWrite seed) := by unfold roF; rw [if_pos dr, if_pos dw, e3]; rfl
  have e5 : ixF (dirF (slotF seed fp)) = keyF tIndex (keyF tRead (keyF tWrite seed)) := by unfold ixF; rw [voF_read dok dr]; show keyF tIndex (roF (dirF (slotF seed fp))).key = _; rw [e4]
  refine ⟨hv, by unfold roE; rw [if_pos hr], by unfold voE; rw [if_pos hok], by unfold dirE; rw [if_pos hd], by unfold voE; rw [if_pos dok], by unfold enE; rw [if_pos hw], by unfold enE; rw [if_pos dw], by rw [e1], by rw [e2], e5, ?_, by rw [e3], by rw [e1], by rw [e2], by rw [e2]; rfl, by rw [e3]; rfl, by rw [e3]; rfl, by rw [e3]; rfl⟩
  unfold enF
  rw [if_pos hw, if_pos dw, e3]

set_option maxHeartbeats 16000000 in
theorem walk (w : World) (ht : Tab w w.heap.size) (S : List Int) (hsl : S.length = 16) (hsb : Bytes S) (P : List Int) (hpl : P.length = 32) (hpb : Bytes P) (n : Int) (hn : In64 n) :
    Calls Tryd.prog 11 #[.agg (u8s S).toArray, .agg (u8s P).toArray, .int .i64 n] w fun e w' => e = .returned (.bool true) ∧ Below w.heap.size w w' := by
  have HT := hide ht
  have HSL := hide hsl
  have HSB := hide hsb
  have HPL := hide hpl
  have hnr : -9223372036854775808 ≤ n ∧ n ≤ 9223372036854775807 := by unfold In64 at hn; omega
  obtain ⟨k1, k2, k3, k4, k5, k6, k7, k8, k9, k10, k11, k12, k13, k14, k15, k16, k17, k18⟩ := keys_laws S P n
  have hww : (slotF S P).Wf := ⟨keyF_len _ _, keyF_bytes _ _, hpl, hpb, fun x hx => by cases hx⟩
  have hrw := roF_wf hww
  have hvw := voF_wf hww
  have hdw : (dirF (slotF S P)).Wf := ⟨by rw [k18]; exact keyF_len _ _, by rw [k18]; exact keyF_bytes _ _, by rw [k17]; exact hpl, by rw [k17]; exact hpb, by rw [k16]; intro x hx; cases hx⟩
  have hrl : (roF (slotF S P)).lit.length ≤ 64 := roF_lit_le
  have hvl : (voF (slotF S P)).lit = [] := voF_lit
  obtain ⟨KW, HKW⟩ : ∃ x, Hid (keyF tWrite S = x) := ⟨_, hide rfl⟩
  rw [HKW.out] at k8 k9 k10 k18
  obtain ⟨KR, HKR⟩ : ∃ x, Hid (keyF tRead KW = x) := ⟨_, hide rfl⟩
  rw [HKR.out] at k8 k9 k10
  obtain ⟨KI, HKI⟩ : ∃ x, Hid (keyF tIndex KR = x) := ⟨_, hide rfl⟩
  rw [HKI.out] at k9 k10
  have hwk : (slotF S P).key = KW := HKW.out
  have hwl : (slotF S P).lit = [] := rfl
  obtain ⟨Cw, HCW⟩ : ∃ x, Hid (slotF S P = x) := ⟨_, hide rfl⟩
  rw [HCW.out] at k1 k2 k3 k4 k5 k6 k7 k8 k9 k10 k11 k12 k13 k14 k15 k16 k17 k18 hww hrw hvw hdw hrl hvl hwk hwl
  obtain ⟨Cr, HCR⟩ : ∃ x, Hid (roF Cw = x) := ⟨_, hide rfl⟩
  obtain ⟨Cv, HCV⟩ : ∃ x, Hid (voF Cw = x) := ⟨_, hide rfl⟩
  obtain ⟨Cd, HCD⟩ : ∃ x, Hid (dirF Cw = x) := ⟨_, hide rfl⟩
  obtain ⟨EN, HEN⟩ : ∃ x, Hid (enF Cw n = x) := ⟨_, hide rfl⟩
  rw [HCR.out] at k8 k13 hrw hrl
  rw [HCV.out] at k9 k14 k15 hvw hvl
  rw [HCD.out] at k5 k7 k10 k11 k12 k16 k17 k18 hdw
  rw [HEN.out] at k11
  have E2 := hide k2
  have E3 := hide k3
  have E4 := hide k4
  have E5 := hide k5
  have E6 := hide k6
  have E7 := hide k7
  have E8 := hide k8
  have E9 := hide k9
  have E10 := hide k10
  have E11 := hide k11
  have E12 := hide k12
  have E13 := hide k13
  have E14 := hide k14
  have E15 := hide k15
  have EWK := hide hwk
  have WW := hide hww
  have WR := hide hrw
  have WV := hide hvw
  have WD := hide hdw
  have LW := hide hwl
  have LD := hide k16
  have lw : Cw.lit.length ≤ 1000000 := by rw [hwl]; simp
  have ld : Cd.lit.length ≤ 1000000 := by rw [k16]; simp
  have KWL := hide (show KW.length = 16 by rw [← HKW.out]; exact keyF_len _ _)
  have KRL := hide (show KR.length = 16 by rw [← HKR.out]; exact keyF_len _ _)
  have KIL := hide (show KI.length = 16 by rw [← HKI.out]; exact keyF_len _ _)
  have KWB := hide (show Bytes KW by rw [← HKW.out]; exact keyF_bytes _ _)
  have KRB := hide (show Bytes KR by rw [← HKR.out]; exact keyF_bytes _ _)
  have ENL := hide (show EN.length = 16 by rw [← HEN.out]; unfold enF; split; exact shortF_len _ _; rfl)
  have HSW := hide (show shortF (strB tWrite) [S] = KW from HKW.out)
  have HSR := hide (show shortF (strB tRead) [KW] = KR from HKR.out)
  have HSI := hide (show shortF (strB tIndex) [KR] = KI from HKI.out)
  obtain ⟨SV, HSV⟩ : ∃ x, Hid (Value.agg (u8s S).toArray = x) := ⟨_, hide rfl⟩
  obtain ⟨PV, HPV⟩ : ∃ x, Hid (Value.agg (u8s P).toArray = x) := ⟨_, hide rfl⟩
  rw [HSV.out, HPV.out]
  clear k1 k2 k3 k4 k5 k6 k7 k8 k9 k10 k11 k12 k13 k14 k15 k16 k17 k18 hww hrw hvw hdw hrl hvl hwk hwl ht hpl hsl hpb
  go_enter Tryd.func11, Tryd.ntmps11
  obtain ⟨gq, hgq⟩ : ∃ n, w.heap.size = n := ⟨_, rfl⟩
  have hwgq : w.heap.size ≤ gq := by omega
  obtain ⟨gf, hgf⟩ : ∃ n, gq + 1 = n := ⟨_, rfl⟩
  have hgqgf : gq < gf := by omega
  have hwgf : w.heap.size ≤ gf := by omega
  go_wp2_with (first
      | (refine wpList_box_key _ rfl S HSV.out.symm rfl ?_; intro w1 hb1 hw1 hs1; rw [hgq] at hb1 ⊢; have Bq_ := hide hb1; have HW := hide hw1; clear hb1 hw1)
      | (refine wpList_box_hash _ rfl P HPV.out.symm rfl ?_; intro w2 hb2 hw2 hs2; have hg2 : w1.heap.size = gf := (by omega); rw [hg2] at hb2; try rw [hg2]; have Bf := hide hb2; have Bq := hide (Bq_.out.below hw2 Bq_.out.lt); replace HW := hide (HW.out.trans (hw2.mono HW.out.size)); clear hb2 hw2 Bq_)
      | (refine wpList_load_key rfl _ rfl rfl Bq.out HSL.out ?_)
      | (refine wpList_load_hash rfl _ rfl rfl Bf.out HPL.out ?_))
  have hcall := Slot_any S P w2 HSL.out HSB.out HPL.out ((HT.out.below HW.out (Nat.le_refl _)).more HW.out.size)
  rw [HCW.out] at hcall
  refine hcall.mono ?_
  clear hcall
  rintro e wc1 ⟨rfl, hb⟩
  have hz1 := hb.size
  replace Bq := hide (Bq.out.below hb Bq.out.lt)
  replace Bf := hide (Bf.out.below hb Bf.out.lt)
  replace HW := hide (HW.out.trans (hb.mono HW.out.size))
  clear hb
  obtain ⟨Vw, EVw⟩ : ∃ x, Hid (capV Cw (.slice none 0 0) = x) := ⟨_, hide rfl⟩
  rw [EVw.out]
  obtain ⟨gw, hgw⟩ : ∃ n, wc1.heap.size = n := ⟨_, rfl⟩
  have hwgw : w.heap.size ≤ gw := by have := HW.out.size; omega
  have hgqgw : gq < gw := by have := Bq.out.lt; omega
  have hgfgw : gf < gw := by have := Bf.out.lt; omega
  go_wp2_with (first
      | (refine wpList_cap_zero rfl rfl ?_; intro wa1 hba hwa hsa; rw [hgw] at hba hwa hsa; try rw [hgw]; have Bw := hide hba; replace Bq := hide (Bq.out.below hwa (by omega)); replace Bf := hide (Bf.out.below hwa (by omega)); replace HW := hide (HW.out.trans (hwa.mono (by omega))); have hza1 : gw + 1 ≤ wa1.heap.size := (by omega); clear hba hwa hsa)
      | (refine wpList_cap_putAll _ _ rfl rfl rfl Bw.out Cw (.slice none 0 0) EVw.out.symm WW.out.keyL WW.out.fpL rfl ?_; intro ws1 hbs hgs hss; have hbt := (Below.refl gw _).grown hgs (by have := Bw.out.lt; omega) (by intro k hk; simp at hk; omega); replace Bq := hide (Bq.out.grown hgs (by intro h; injection h with h; omega)); replace Bf := hide (Bf.out.grown hgs (by intro h; injection h with h; omega)); replace HW := hide (HW.out.grown hgs HW.out.size (by intro k hk; simp at hk; omega)); clear hbt; replace Bw := hide hbs; have hzs1 : gw + 1 ≤ ws1.heap.size := (by omega); clear hbs hgs hss)
      | (refine wpList_cap_all _ rfl rfl rfl Bw.out ?_; rw [EVw.out]))
  have hcall := ReadOnly_any Cw (.slice none 0 0) ws1 WW.out (by rw [LW.out]; exact Bs.nil_ _ _) lw ((HT.out.below HW.out (Nat.le_refl _)).more HW.out.size)
  rw [EVw.out, HCR.out, E2.out] at hcall
  refine hcall.mono ?_
  clear hcall
  rintro e wc2 ⟨lr, rfl, hl, hb⟩
  have hz2 := hb.size
  replace Bq := hide (Bq.out.below hb Bq.out.lt)
  replace Bf := hide (Bf.out.below hb Bf.out.lt)
  replace Bw := hide (Bw.out.below hb Bw.out.lt)
  replace HW := hide (HW.out.trans (hb.mono HW.out.size))
  have Lr := hide hl
  have LOr := hide hl.one
  clear hl
  clear hb
  obtain ⟨Vr, EVr⟩ : ∃ x, Hid (capV Cr lr = x) := ⟨_, hide rfl⟩
  rw [EVr.out]
  obtain ⟨gr, hgr⟩ : ∃ n, wc2.heap.size = n := ⟨_, rfl⟩
  have hwgr : w.heap.size ≤ gr := by have := HW.out.size; omega
  have hgqgr : gq < gr := by have := Bq.out.lt; omega
  have hgfgr : gf < gr := by have := Bf.out.lt; omega
  have hgwgr : gw < gr := by have := Bw.out.lt; omega
  rw [hgr] at Lr
  go_wp2_with (first
      | (refine wpList_cap_zero rfl rfl ?_; intro wa2 hba hwa hsa; rw [hgr] at hba hwa hsa; try rw [hgr]; have Br := hide hba; replace Lr := hide (Lr.out.below hwa (by omega)); replace Bq := hide (Bq.out.below hwa (by omega)); replace Bf := hide (Bf.out.below hwa (by omega)); replace Bw := hide (Bw.out.below hwa (by omega)); replace HW := hide (HW.out.trans (hwa.mono (by omega))); have hza2 : gr + 1 ≤ wa2.heap.size := (by omega); clear hba hwa hsa)
      | (refine wpList_cap_putAll _ _ rfl rfl rfl Br.out Cr lr EVr.out.symm WR.out.keyL WR.out.fpL LOr.out ?_; intro ws2 hbs hgs hss; have hbt := (Below.refl gr _).grown hgs (by have := Br.out.lt; omega) (by intro k hk; simp at hk; omega); replace Bq := hide (Bq.out.grown hgs (by intro h; injection h with h; omega)); replace Bf := hide (Bf.out.grown hgs (by intro h; injection h with h; omega)); replace Bw := hide (Bw.out.grown hgs (by intro h; injection h with h; omega)); replace HW := hide (HW.out.grown hgs HW.out.size (by intro k hk; simp at hk; omega)); replace Lr := hide (Lr.out.below hbt (by omega)); clear hbt; replace Br := hide hbs; have hzs2 : gr + 1 ≤ ws2.heap.size := (by omega); clear hbs hgs hss)
      | (refine wpList_cap_all _ rfl rfl rfl Bw.out ?_; rw [EVw.out]))
  have hcall := VerifyOnly_any Cw (.slice none 0 0) ws2 WW.out (by rw [LW.out]; exact Bs.nil_ _ _) lw ((HT.out.below HW.out (Nat.le_refl _)).more HW.out.size)
  rw [EVw.out, HCV.out, E3.out] at hcall
  refine hcall.mono ?_
  clear hcall
  rintro e wc3 ⟨lv, rfl, hl, hb⟩
  have hz3 := hb.size
  replace Lr := hide (Lr.out.below hb (by have := Br.out.lt; omega))
  replace Bq := hide (Bq.out.below hb Bq.out.lt)
  replace Bf := hide (Bf.out.below hb Bf.out.lt)
  replace Bw := hide (Bw.out.below hb Bw.out.lt)
  replace Br := hide (Br.out.below hb Br.out.lt)
  replace HW := hide (HW.out.trans (hb.mono HW.out.size))
  have Lv := hide hl
  have LOv := hide hl.one
  clear hl
  clear hb
  obtain ⟨Vv, EVv⟩ : ∃ x, Hid (capV Cv lv = x) := ⟨_, hide rfl⟩
  rw [EVv.out]
  obtain ⟨gv, hgv⟩ : ∃ n, wc3.heap.size = n := ⟨_, rfl⟩
  have hwgv : w.heap.size ≤ gv := by have := HW.out.size; omega
  have hgqgv : gq < gv := by have := Bq.out.lt; omega
  have hgfgv : gf < gv := by have := Bf.out.lt; omega
  have hgwgv : gw < gv := by have := Bw.out.lt; omega
  have hgrgv : gr < gv := by have := Br.out.lt; omega
  rw [hgv] at Lv
  go_wp2_with (first
      | (refine wpList_cap_zero rfl rfl ?_; intro wa3 hba hwa hsa; rw [hgv] at hba hwa hsa; try rw [hgv]; have Bv := hide hba; replace Lr := hide (Lr.out.below hwa (by omega)); replace Lv := hide (Lv.out.below hwa (by omega)); replace Bq := hide (Bq.out.below hwa (by omega)); replace Bf := hide (Bf.out.below hwa (by omega)); replace Bw := hide (Bw.out.below hwa (by omega)); replace Br := hide (Br.out.below hwa (by omega)); replace HW := hide (HW.out.trans (hwa.mono (by omega))); have hza3 : gv + 1 ≤ wa3.heap.size := (by omega); clear hba hwa hsa)
      | (refine wpList_cap_putAll _ _ rfl rfl rfl Bv.out Cv lv EVv.out.symm WV.out.keyL WV.out.fpL LOv.out ?_; intro ws3 hbs hgs hss; have hbt := (Below.refl gv _).grown hgs (by have := Bv.out.lt; omega) (by intro k hk; simp at hk; omega); replace Lr := hide (Lr.out.below hbt (by omega)); replace Bq := hide (Bq.out.grown hgs (by intro h; injection h with h; omega)); replace Bf := hide (Bf.out.grown hgs (by intro h; injection h with h; omega)); replace Bw := hide (Bw.out.grown hgs (by intro h; injection h with h; omega)); replace Br := hide (Br.out.grown hgs (by intro h; injection h with h; omega)); replace HW := hide (HW.out.grown hgs HW.out.size (by intro k hk; simp at hk; omega)); replace Lv := hide (Lv.out.below hbt (by omega)); clear hbt; replace Bv := hide hbs; have hzs3 : gv + 1 ≤ ws3.heap.size := (by omega); clear hbs hgs hss)
      | (refine wpList_cap_all _ rfl rfl rfl Bw.out ?_; rw [EVw.out]))
  have hcall := Dir_any Cw (.slice none 0 0) ws3 WW.out (by rw [LW.out]; exact Bs.nil_ _ _) lw
  rw [EVw.out, HCD.out, E4.out] at hcall
  refine hcall.mono ?_
  clear hcall
  rintro e wc4 ⟨ld_, rfl, hl, hb⟩
  have hz4 := hb.size
  replace Lr := hide (Lr.out.below hb (by have := Br.out.lt; omega))
  replace Lv := hide (Lv.out.below hb (by have := Bv.out.lt; omega))
  replace Bq := hide (Bq.out.below hb Bq.out.lt)
  replace Bf := hide (Bf.out.below hb Bf.out.lt)
  replace Bw := hide (Bw.out.below hb Bw.out.lt)
  replace Br := hide (Br.out.below hb Br.out.lt)
  replace Bv := hide (Bv.out.below hb Bv.out.lt)
  replace HW := hide (HW.out.trans (hb.mono HW.out.size))
  have Ld := hide hl
  have LOd := hide hl.one
  clear hl
  clear hb
  obtain ⟨Vd, EVd⟩ : ∃ x, Hid (capV Cd ld_ = x) := ⟨_, hide rfl⟩
  rw [EVd.out]
  obtain ⟨gd, hgd⟩ : ∃ n, wc4.heap.size = n := ⟨_, rfl⟩
  have hwgd : w.heap.size ≤ gd := by have := HW.out.size; omega
  have hgqgd : gq < gd := by have := Bq.out.lt; omega
  have hgfgd : gf < gd := by have := Bf.out.lt; omega
  have hgwgd : gw < gd := by have := Bw.out.lt; omega
  have hgrgd : gr < gd := by have := Br.out.lt; omega
  have hgvgd : gv < gd := by have := Bv.out.lt; omega
  rw [hgd] at Ld
  go_wp2_with (first
      | (refine wpList_cap_zero rfl rfl ?_; intro wa4 hba hwa hsa; rw [hgd] at hba hwa hsa; try rw [hgd]; have Bd := hide hba; replace Lr := hide (Lr.out.below hwa (by omega)); replace Lv := hide (Lv.out.below hwa (by omega)); replace Ld := hide (Ld.out.below hwa (by omega)); replace Bq := hide (Bq.out.below hwa (by omega)); replace Bf := hide (Bf.out.below hwa (by omega)); replace Bw := hide (Bw.out.below hwa (by omega)); replace Br := hide (Br.out.below hwa (by omega)); replace Bv := hide (Bv.out.below hwa (by omega)); replace HW := hide (HW.out.trans (hwa.mono (by omega))); have hza4 : gd + 1 ≤ wa4.heap.size := (by omega); clear hba hwa hsa)
      | (refine wpList_cap_putAll _ _ rfl rfl rfl Bd.out Cd ld_ EVd.out.symm WD.out.keyL WD.out.fpL LOd.out ?_; intro ws4 hbs hgs hss; have hbt := (Below.refl gd _).grown hgs (by have := Bd.out.lt; omega) (by intro k hk; simp at hk; omega); replace Lr := hide (Lr.out.below hbt (by omega)); replace Lv := hide (Lv.out.below hbt (by omega)); replace Bq := hide (Bq.out.grown hgs (by intro h; injection h with h; omega)); replace Bf := hide (Bf.out.grown hgs (by intro h; injection h with h; omega)); replace Bw := hide (Bw.out.grown hgs (by intro h; injection h with h; omega)); replace Br := hide (Br.out.grown hgs (by intro h; injection h with h; omega)); replace Bv := hide (Bv.out.grown hgs (by intro h; injection h with h; omega)); replace HW := hide (HW.out.grown hgs HW.out.size (by intro k hk; simp at hk; omega)); replace Ld := hide (Ld.out.below hbt (by omega)); clear hbt; replace Bd := hide hbs; have hzs4 : gd + 1 ≤ ws4.heap.size := (by omega); clear hbs hgs hss)
      | (refine wpList_cap_all _ rfl rfl rfl Bd.out ?_; rw [EVd.out]))
  have hcall := Index_any Cd ld_ ws4 WD.out (Ld.out.more (by omega)) ld ((HT.out.below HW.out (Nat.le_refl _)).more HW.out.size)
  rw [EVd.out, E10.out, E5.out] at hcall
  refine hcall.mono ?_
  clear hcall
  rintro e wc5 ⟨rfl, hb⟩
  have hz5 := hb.size
  replace Lr := hide (Lr.out.below hb (by have := Br.out.lt; omega))
  replace Lv := hide (Lv.out.below hb (by have := Bv.out.lt; omega))
  replace Ld := hide (Ld.out.below hb (by have := Bd.out.lt; omega))
  replace Bq := hide (Bq.out.below hb Bq.out.lt)
  replace Bf := hide (Bf.out.below hb Bf.out.lt)
  replace Bw := hide (Bw.out.below hb Bw.out.lt)
  replace Br := hide (Br.out.below hb Br.out.lt)
  replace Bv := hide (Bv.out.below hb Bv.out.lt)
  replace Bd := hide (Bd.out.below hb Bd.out.lt)
  replace HW := hide (HW.out.trans (hb.mono HW.out.size))
  clear hb
  obtain ⟨gi, hgi⟩ : ∃ n, wc5.heap.size = n := ⟨_, rfl⟩
  have hwgi : w.heap.size ≤ gi := by have := HW.out.size; omega
  have hgqgi : gq < gi := by have := Bq.out.lt; omega
  have hgfgi : gf < gi := by have := Bf.out.lt; omega
  have hgwgi : gw < gi := by have := Bw.out.lt; omega
  have hgrgi : gr < gi := by have := Br.out.lt; omega
  have hgvgi : gv < gi := by have := Bv.out.lt; omega
  have hgdgi : gd < gi := by have := Bd.out.lt; omega
  go_wp2_with (first
      | (refine wpList_alloc_blk rfl 23 rfl _ zero_key ?_; intro wa5 hba hwa hsa; rw [hgi] at hba hwa hsa; try rw [hgi]; have Bi := hide hba; replace Lr := hide (Lr.out.below hwa (by omega)); replace Lv := hide (Lv.out.below hwa (by omega)); replace Ld := hide (Ld.out.below hwa (by omega)); replace Bq := hide (Bq.out.below hwa (by omega)); replace Bf := hide (Bf.out.below hwa (by omega)); replace Bw := hide (Bw.out.below hwa (by omega)); replace Br := hide (Br.out.below hwa (by omega)); replace Bv := hide (Bv.out.below hwa (by omega)); replace Bd := hide (Bd.out.below hwa (by omega)); replace HW := hide (HW.out.trans (hwa.mono (by omega))); have hza5 : gi + 1 ≤ wa5.heap.size := (by omega); clear hba hwa hsa)
      | (refine wpList_store_blk rfl 23 _ _ rfl gi 0 (u8s KI) rfl (by exact rfl) _ _ Bi.out (by rw [u8s_len, u8s_len, KIL.out]; simp) (by rw [u8s_len, KIL.out]; exact size_key) (u8s_one _) ?_; intro ws5 hbs hgs hss; rw [lset_all _ _ (by rw [u8s_len, u8s_len, KIL.out]; rfl)] at hbs; have hbt := (Below.refl gi _).grown hgs (by have := Bi.out.lt; omega) (by intro k hk; simp at hk; omega); replace Lr := hide (Lr.out.below hbt (by omega)); replace Lv := hide (Lv.out.below hbt (by omega)); replace Ld := hide (Ld.out.below hbt (by omega)); replace Bq := hide (Bq.out.grown hgs (by intro h; injection h with h; omega)); replace Bf := hide (Bf.out.grown hgs (by intro h; injection h with h; omega)); replace Bw := hide (Bw.out.grown hgs (by intro h; injection h with h; omega)); replace Br := hide (Br.out.grown hgs (by intro h; injection h with h; omega)); replace Bv := hide (Bv.out.grown hgs (by intro h; injection h with h; omega)); replace Bd := hide (Bd.out.grown hgs (by intro h; injection h with h; omega)); replace HW := hide (HW.out.grown hgs HW.out.size (by intro k hk; simp at hk; omega)); clear hbt; replace Bi := hide hbs; have hzs5 : gi + 1 ≤ ws5.heap.size := (by omega); clear hbs hgs hss)
      | (refine wpList_cap_all _ rfl rfl rfl Bw.out ?_; rw [EVw.out]))
  have hcall := Enabler_any Cw (.slice none 0 0) n ws5 WW.out (by rw [LW.out]; exact Bs.nil_ _ _) lw ((HT.out.below HW.out (Nat.le_refl _)).more HW.out.size) hnr
  rw [EVw.out, HEN.out, E6.out] at hcall
  refine hcall.mono ?_
  clear hcall
  rintro e wc6 ⟨rfl, hb⟩
  have hz6 := hb.size
  replace Lr := hide (Lr.out.below hb (by have := Br.out.lt; omega))
  replace Lv := hide (Lv.out.below hb (by have := Bv.out.lt; omega))
  replace Ld := hide (Ld.out.below hb (by have := Bd.out.lt; omega))
  replace Bq := hide (Bq.out.below hb Bq.out.lt)
  replace Bf := hide (Bf.out.below hb Bf.out.lt)
  replace Bw := hide (Bw.out.below hb Bw.out.lt)
  replace Br := hide (Br.out.below hb Br.out.lt)
  replace Bv := hide (Bv.out.below hb Bv.out.lt)
  replace Bd := hide (Bd.out.below hb Bd.out.lt)
  replace Bi := hide (Bi.out.below hb Bi.out.lt)
  replace HW := hide (HW.out.trans (hb.mono HW.out.size))
  clear hb
  obtain ⟨ga, hga⟩ : ∃ n, wc6.heap.size = n := ⟨_, rfl⟩
  have hwga : w.heap.size ≤ ga := by have := HW.out.size; omega
  have hgqga : gq < ga := by have := Bq.out.lt; omega
  have hgfga : gf < ga := by have := Bf.out.lt; omega
  have hgwga : gw < ga := by have := Bw.out.lt; omega
  have hgrga : gr < ga := by have := Br.out.lt; omega
  have hgvga : gv < ga := by have := Bv.out.lt; omega
  have hgdga : gd < ga := by have := Bd.out.lt; omega
  have hgiga : gi < ga := by have := Bi.out.lt; omega
  go_wp2_with (first
      | (refine wpList_alloc_blk rfl 23 rfl _ zero_key ?_; intro wa6 hba hwa hsa; rw [hga] at hba hwa hsa; try rw [hga]; have Ba := hide hba; replace Lr := hide (Lr.out.below hwa (by omega)); replace Lv := hide (Lv.out.below hwa (by omega)); replace Ld := hide (Ld.out.below hwa (by omega)); replace Bq := hide (Bq.out.below hwa (by omega)); replace Bf := hide (Bf.out.below hwa (by omega)); replace Bw := hide (Bw.out.below hwa (by omega)); replace Br := hide (Br.out.below hwa (by omega)); replace Bv := hide (Bv.out.below hwa (by omega)); replace Bd := hide (Bd.out.below hwa (by omega)); replace Bi := hide (Bi.out.below hwa (by omega)); replace HW := hide (HW.out.trans (hwa.mono (by omega))); have hza6 : ga + 1 ≤ wa6.heap.size := (by omega); clear hba hwa hsa)
      | (refine wpList_store_blk rfl 23 _ _ rfl ga 0 (u8s EN) rfl (by exact rfl) _ _ Ba.out (by rw [u8s_len, u8s_len, ENL.out]; simp) (by rw [u8s_len, ENL.out]; exact size_key) (u8s_one _) ?_; intro ws6 hbs hgs hss; rw [lset_all _ _ (by rw [u8s_len, u8s_len, ENL.out]; rfl)] at hbs; have hbt := (Below.refl ga _).grown hgs (by have := Ba.out.lt; omega) (by intro k hk; simp at hk; omega); replace Lr := hide (Lr.out.below hbt (by omega)); replace Lv := hide (Lv.out.below hbt (by omega)); replace Ld := hide (Ld.out.below hbt (by omega)); replace Bq := hide (Bq.out.grown hgs (by intro h; injection h with h; omega)); replace Bf := hide (Bf.out.grown hgs (by intro h; injection h with h; omega)); replace Bw := hide (Bw.out.grown hgs (by intro h; injection h with h; omega)); replace Br := hide (Br.out.grown hgs (by intro h; injection h with h; omega)); replace Bv := hide (Bv.out.grown hgs (by intro h; injection h with h; omega)); replace Bd := hide (Bd.out.grown hgs (by intro h; injection h with h; omega)); replace Bi := hide (Bi.out.grown hgs (by intro h; injection h with h; omega)); replace HW := hide (HW.out.grown hgs HW.out.size (by intro k hk; simp at hk; omega)); clear hbt; replace Ba := hide hbs; have hzs6 : ga + 1 ≤ ws6.heap.size := (by omega); clear hbs hgs hss)
      | (refine wpList_cap_all _ rfl rfl rfl Bd.out ?_; rw [EVd.out]))
  have hcall := Enabler_any Cd ld_ n ws6 WD.out (Ld.out.more (by omega)) ld ((HT.out.below HW.out (Nat.le_refl _)).more HW.out.size) hnr
  rw [EVd.out, E11.out, E7.out] at hcall
  refine hcall.mono ?_
  clear hcall
  rintro e wc7 ⟨rfl, hb⟩
  have hz7 := hb.size
  replace Lr := hide (Lr.out.below hb (by have := Br.out.lt; omega))
  replace Lv := hide (Lv.out.below hb (by have := Bv.out.lt; omega))
  replace Ld := hide (Ld.out.below hb (by have := Bd.out.lt; omega))
  replace Bq := hide (Bq.out.below hb Bq.out.lt)
  replace Bf := hide (Bf.out.below hb Bf.out.lt)
  replace Bw := hide (Bw.out.below hb Bw.out.lt)
  replace Br := hide (Br.out.below hb Br.out.lt)
  replace Bv := hide (Bv.out.below hb Bv.out.lt)
  replace Bd := hide (Bd.out.below hb Bd.out.lt)
  replace Bi := hide (Bi.out.below hb Bi.out.lt)
  replace Ba := hide (Ba.out.below hb Ba.out.lt)
  replace HW := hide (HW.out.trans (hb.mono HW.out.size))
  clear hb
  obtain ⟨gb, hgb⟩ : ∃ n, wc7.heap.size = n := ⟨_, rfl⟩
  have hwgb : w.heap.size ≤ gb := by have := HW.out.size; omega
  have hgqgb : gq < gb := by have := Bq.out.lt; omega
  have hgfgb : gf < gb := by have := Bf.out.lt; omega
  have hgwgb : gw < gb := by have := Bw.out.lt; omega
  have hgrgb : gr < gb := by have := Br.out.lt; omega
  have hgvgb : gv < gb := by have := Bv.out.lt; omega
  have hgdgb : gd < gb := by have := Bd.out.lt; omega
  have hgigb : gi < gb := by have := Bi.out.lt; omega
  have hgagb : ga < gb := by have := Ba.out.lt; omega
  go_upto_region 8 with (first
      | go_skip
      | (refine wpList_alloc_blk rfl 23 rfl _ zero_key ?_; intro wa7 hba hwa hsa; rw [hgb] at hba hwa hsa; try rw [hgb]; have Bb := hide hba; replace Lr := hide (Lr.out.below hwa (by omega)); replace Lv := hide (Lv.out.below hwa (by omega)); replace Ld := hide (Ld.out.below hwa (by omega)); replace Bq := hide (Bq.out.below hwa (by omega)); replace Bf := hide (Bf.out.below hwa (by omega)); replace Bw := hide (Bw.out.below hwa (by omega)); replace Br := hide (Br.out.below hwa (by omega)); replace Bv := hide (Bv.out.below hwa (by omega)); replace Bd := hide (Bd.out.below hwa (by omega)); replace Bi := hide (Bi.out.below hwa (by omega)); replace Ba := hide (Ba.out.below hwa (by omega)); replace HW := hide (HW.out.trans (hwa.mono (by omega))); have hza7 : gb + 1 ≤ wa7.heap.size := (by omega); clear hba hwa hsa)
      | (refine wpList_store_blk rfl 23 _ _ rfl gb 0 (u8s EN) rfl (by exact rfl) _ _ Bb.out (by rw [u8s_len, u8s_len, ENL.out]; simp) (by rw [u8s_len, ENL.out]; exact size_key) (u8s_one _) ?_; intro ws7 hbs hgs hss; rw [lset_all _ _ (by rw [u8s_len, u8s_len, ENL.out]; rfl)] at hbs; have hbt := (Below.refl gb _).grown hgs (by have := Bb.out.lt; omega) (by intro k hk; simp at hk; omega); replace Lr := hide (Lr.out.below hbt (by omega)); replace Lv := hide (Lv.out.below hbt (by omega)); replace Ld := hide (Ld.out.below hbt (by omega)); replace Bq := hide (Bq.out.grown hgs (by intro h; injection h with h; omega)); replace Bf := hide (Bf.out.grown hgs (by intro h; injection h with h; omega)); replace Bw := hide (Bw.out.grown hgs (by intro h; injection h with h; omega)); replace Br := hide (Br.out.grown hgs (by intro h; injection h with h; omega)); replace Bv := hide (Bv.out.grown hgs (by intro h; injection h with h; omega)); replace Bd := hide (Bd.out.grown hgs (by intro h; injection h with h; omega)); replace Bi := hide (Bi.out.grown hgs (by intro h; injection h with h; omega)); replace Ba := hide (Ba.out.grown hgs (by intro h; injection h with h; omega)); replace HW := hide (HW.out.grown hgs HW.out.size (by intro k hk; simp at hk; omega)); clear hbt; replace Bb := hide hbs; have hzs7 : gb + 1 ≤ ws7.heap.size := (by omega); clear hbs hgs hss))
  refine wp_region_held_drew (S := fun w' => Below ws7.heap.size ws7 w') (by kernel_rfl) (Below.refl _ _).drew (fun hHeld => ?_)
  refine take_d 55 (i := 0) (v := .int .i64 0) rfl (by kernel_rfl) (by kernel_rfl) (by kernel_rfl) (by kernel_rfl) (fun _ _ _ h => h) (Or.inl ⟨by kernel_rfl, fun w' hS => exec_move _ rfl _ rfl⟩) hHeld ?_
  try simp only [Act.put, List.setIfInBounds_toArray, List.set_cons_zero, List.set_cons_succ]
  refine take_d 56 (i := 1) (v := .bool true) rfl (by kernel_rfl) (by kernel_rfl) (by kernel_rfl) (by kernel_rfl) (fun _ _ _ h => h) (Or.inl ⟨by kernel_rfl, fun w' hS => exec_eql_err _ _ _ rfl 0 rfl rfl⟩) hHeld ?_
  try simp only [Act.put, List.setIfInBounds_toArray, List.set_cons_zero, List.set_cons_succ]
  refine take_d 57 (i := 2) (v := .bool true) rfl (by kernel_rfl) (by kernel_rfl) (by kernel_rfl) (by kernel_rfl) (fun _ _ _ h => h) (Or.inl ⟨by kernel_rfl, fun w' hS => exec_move _ rfl _ rfl⟩) hHeld ?_
  try simp only [Act.put, List.setIfInBounds_toArray, List.set_cons_zero, List.set_cons_succ]
  refine take_d 58 (i := 3) (v := .int .i64 0) rfl (by kernel_rfl) (by kernel_rfl) (by kernel_rfl) (by kernel_rfl) (fun _ _ _ h => h) (Or.inl ⟨by kernel_rfl, fun w' hS => exec_move _ rfl _ rfl⟩) hHeld ?_
  try simp only [Act.put, List.setIfInBounds_toArray, List.set_cons_zero, List.set_cons_succ]
  refine take_d 59 (i := 4) (v := .bool true) rfl (by kernel_rfl) (by kernel_rfl) (by kernel_rfl) (by kernel_rfl) (fun _ _ _ h => h) (Or.inl ⟨by kernel_rfl, fun w' hS => exec_eql_err _ _ _ rfl 0 rfl rfl⟩) hHeld ?_
  try simp only [Act.put, List.setIfInBounds_toArray, List.set_cons_zero, List.set_cons_succ]
  refine take_d 60 (i := 5) (v := .bool true) rfl (by kernel_rfl) (by kernel_rfl) (by kernel_rfl) (by kernel_rfl) (fun _ _ _ h => h) (Or.inl ⟨by kernel_rfl, fun w' hS => exec_pick_t _ _ _ rfl rfl _ rfl⟩) hHeld ?_
  try simp only [Act.put, List.setIfInBounds_toArray, List.set_cons_zero, List.set_cons_succ]
  refine take_d 61 (i := 6) (v := .bool true) rfl (by kernel_rfl) (by kernel_rfl) (by kernel_rfl) (by kernel_rfl) (fun _ _ _ h => h) (Or.inl ⟨by kernel_rfl, fun w' hS => exec_move _ rfl _ rfl⟩) hHeld ?_
  try simp only [Act.put, List.setIfInBounds_toArray, List.set_cons_zero, List.set_cons_succ]
  refine take_d 62 (i := 7) (v := .int .i64 0) rfl (by kernel_rfl) (by kernel_rfl) (by kernel_rfl) (by kernel_rfl) (fun _ _ _ h => h) (Or.inl ⟨by kernel_rfl, fun w' hS => exec_move _ rfl _ rfl⟩) hHeld ?_
  try simp only [Act.put, List.setIfInBounds_toArray, List.set_cons_zero, List.set_cons_succ]
  refine take_d 63 (i := 8) (v := .bool true) rfl (by kernel_rfl) (by kernel_rfl) (by kernel_rfl) (by kernel_rfl) (fun _ _ _ h => h) (Or.inl ⟨by kernel_rfl, fun w' hS => exec_eql_err _ _ _ rfl 0 rfl rfl⟩) hHeld ?_
  try simp only [Act.put, List.setIfInBounds_toArray, List.set_cons_zero, List.set_cons_succ]
  refine take_d 64 (i := 9) (v := .bool true) rfl (by kernel_rfl) (by kernel_rfl) (by kernel_rfl) (by kernel_rfl) (fun _ _ _ h => h) (Or.inl ⟨by kernel_rfl, fun w' hS => exec_pick_t _ _ _ rfl rfl _ rfl⟩) hHeld ?_
  try simp only [Act.put, List.setIfInBounds_toArray, List.set_cons_zero, List.set_cons_succ]
  refine take_d 65 (i := 10) (v := .bool true) rfl (by kernel_rfl) (by kernel_rfl) (by kernel_rfl) (by kernel_rfl) (fun _ _ _ h => h) (Or.inl ⟨by kernel_rfl, fun w' hS => exec_move _ rfl _ rfl⟩) hHeld ?_
  try simp only [Act.put, List.setIfInBounds_toArray, List.set_cons_zero, List.set_cons_succ]
  refine take_d 66 (i := 11) (v := .int .i64 0) rfl (by kernel_rfl) (by kernel_rfl) (by kernel_rfl) (by kernel_rfl) (fun _ _ _ h => h) (Or.inl ⟨by kernel_rfl, fun w' hS => exec_move _ rfl _ rfl⟩) hHeld ?_
  try simp only [Act.put, List.setIfInBounds_toArray, List.set_cons_zero, List.set_cons_succ]
  refine take_d 67 (i := 12) (v := .bool true) rfl (by kernel_rfl) (by kernel_rfl) (by kernel_rfl) (by kernel_rfl) (fun _ _ _ h => h) (Or.inl ⟨by kernel_rfl, fun w' hS => exec_eql_err _ _ _ rfl 0 rfl rfl⟩) hHeld ?_
  try simp only [Act.put, List.setIfInBounds_toArray, List.set_cons_zero, List.set_cons_succ]
  refine take_d 68 (i := 13) (v := .bool true) rfl (by kernel_rfl) (by kernel_rfl) (by kernel_rfl) (by kernel_rfl) (fun _ _ _ h => h) (Or.inl ⟨by kernel_rfl, fun w' hS => exec_pick_t _ _ _ rfl rfl _ rfl⟩) hHeld ?_
  try simp only [Act.put, List.setIfInBounds_toArray, List.set_cons_zero, List.set_cons_succ]
  refine take_d 69 (i := 14) (v := .bool true) rfl (by kernel_rfl) (by kernel_rfl) (by kernel_rfl) (by kernel_rfl) (fun _ _ _ h => h) (Or.inl ⟨by kernel_rfl, fun w' hS => exec_move _ rfl _ rfl⟩) hHeld ?_
  try simp only [Act.put, List.setIfInBounds_toArray, List.set_cons_zero, List.set_cons_succ]
  refine take_d 70 (i := 15) (v := .int .i64 0) rfl (by kernel_rfl) (by kernel_rfl) (by kernel_rfl) (by kernel_rfl) (fun _ _ _ h => h) (Or.inl ⟨by kernel_rfl, fun w' hS => exec_move _ rfl _ rfl⟩) hHeld ?_
  try simp only [Act.put, List.setIfInBounds_toArray, List.set_cons_zero, List.set_cons_succ]
  refine take_d 71 (i := 16) (v := .bool true) rfl (by kernel_rfl) (by kernel_rfl) (by kernel_rfl) (by kernel_rfl) (fun _ _ _ h => h) (Or.inl ⟨by kernel_rfl, fun w' hS => exec_eql_err _ _ _ rfl 0 rfl rfl⟩) hHeld ?_
  try simp only [Act.put, List.setIfInBounds_toArray, List.set_cons_zero, List.set_cons_succ]
  refine take_d 72 (i := 17) (v := .bool true) rfl (by kernel_rfl) (by kernel_rfl) (by kernel_rfl) (by kernel_rfl) (fun _ _ _ h => h) (Or.inl ⟨by kernel_rfl, fun w' hS => exec_pick_t _ _ _ rfl rfl _ rfl⟩) hHeld ?_
  try simp only [Act.put, List.setIfInBounds_toArray, List.set_cons_zero, List.set_cons_succ]
  refine take_d 73 (i := 18) (v := .bool true) rfl (by kernel_rfl) (by kernel_rfl) (by kernel_rfl) (by kernel_rfl) (fun _ _ _ h => h) (Or.inl ⟨by kernel_rfl, fun w' hS => exec_move _ rfl _ rfl⟩) hHeld ?_
  try simp only [Act.put, List.setIfInBounds_toArray, List.set_cons_zero, List.set_cons_succ]
  refine take_d 74 (i := 19) (v := .int .i64 0) rfl (by kernel_rfl) (by kernel_rfl) (by kernel_rfl) (by kernel_rfl) (fun _ _ _ h => h) (Or.inl ⟨by kernel_rfl, fun w' hS => exec_move _ rfl _ rfl⟩) hHeld ?_
  try simp only [Act.put, List.setIfInBounds_toArray, List.set_cons_zero, List.set_cons_succ]
  refine take_d 75 (i := 20) (v := .bool true) rfl (by kernel_rfl) (by kernel_rfl) (by kernel_rfl) (by kernel_rfl) (fun _ _ _ h => h) (Or.inl ⟨by kernel_rfl, fun w' hS => exec_eql_err _ _ _ rfl 0 rfl rfl⟩) hHeld ?_
  try simp only [Act.put, List.setIfInBounds_toArray, List.set_cons_zero, List.set_cons_succ]
  refine take_d 76 (i := 21) (v := .bool true) rfl (by kernel_rfl) (by kernel_rfl) (by kernel_rfl) (by kernel_rfl) (fun _ _ _ h => h) (Or.inl ⟨by kernel_rfl, fun w' hS => exec_pick_t _ _ _ rfl rfl _ rfl⟩) hHeld ?_
  try simp only [Act.put, List.setIfInBounds_toArray, List.set_cons_zero, List.set_cons_succ]
  refine take_d 77 (i := 22) (v := .bool true) rfl (by kernel_rfl) (by kernel_rfl) (by kernel_rfl) (by kernel_rfl) (fun _ _ _ h => h) (Or.inl ⟨by kernel_rfl, fun w' hS => exec_move _ rfl _ rfl⟩) hHeld ?_
  try simp only [Act.put, List.setIfInBounds_toArray, List.set_cons_zero, List.set_cons_succ]
  refine take_d 78 (i := 23) (v := .pointer (some ⟨gw, 1, none⟩)) rfl (by kernel_rfl) (by kernel_rfl) (by kernel_rfl) (by kernel_rfl) (fun _ _ _ h => h) (Or.inl ⟨by kernel_rfl, fun w' hS => exec_field _ 1 1 rfl gw rfl rfl⟩) hHeld ?_
  try simp only [Act.put, List.setIfInBounds_toArray, List.set_cons_zero, List.set_cons_succ]
  refine take_d 79 (i := 24) (v := .agg (u8s KW).toArray) rfl (by kernel_rfl) (by kernel_rfl) (by kernel_rfl) (by kernel_rfl) (fun _ _ _ h => h) (Or.inl ⟨by kernel_rfl, fun w' hS => exec_load_arr _ _ rfl gw 1 rfl _ (u8s KW) (by have := (Bw.out.below hS Bw.out.lt).keyRange; rw [EWK.out] at this; exact this) Tryd.underlying23 rfl (by rw [u8s_len, KWL.out]; exact size_key)⟩) hHeld ?_
  try simp only [Act.put, List.setIfInBounds_toArray, List.set_cons_zero, List.set_cons_succ]
  refine take_d 80 (i := 25) (v := .slice (some ⟨gq, 0, none⟩) 16 16) rfl (by kernel_rfl) (by kernel_rfl) (by kernel_rfl) (by kernel_rfl) (fun _ _ _ h => h) (Or.inl ⟨by kernel_rfl, fun w' hS => exec_slice_key _ rfl gq 0 rfl⟩) hHeld ?_
  try simp only [Act.put, List.setIfInBounds_toArray, List.set_cons_zero, List.set_cons_succ]
  refine wpAnyH_ready (rs := [26]) (by kernel_rfl) (by simp) (AllReadyH.cons rfl (fun K hK => ?_) AllReadyH.nil)
  rw [if_pos (by kernel_rfl)]
  refine wp_rows1D 81 rfl _ rfl (.slice (some ⟨gq, 0, none⟩) 16 16) rfl rfl ?_
  generalize hgd : Array.size (World.heap _) = gd1
  intro wd1 hbd hwd
  have hX := hHeld.trans (hwd.mono (by rw [← hgd]; exact hHeld.size))
  have HRW1 := hide (rows_one hbd ((Bq.out.below hX (Bq.out.lt)).reads HSL.out (by omega)))
  have HX := hide hX
  clear hbd hwd hX
  refine hK.out _ _ HX.out (fun hHeld => ?_)
  clear HX hK K
  try simp only [Act.put, List.setIfInBounds_toArray, List.set_cons_zero, List.set_cons_succ]
  refine wpAnyH_ready (rs := [27]) (by kernel_rfl) (by simp) (AllReadyH.cons rfl (fun K hK => ?_) AllReadyH.nil)
  rw [if_pos (by kernel_rfl)]
  try go_simp
  have hcall := Short_any tWrite _ [S] _ HRW1.out (by intro x hx; simp at hx; subst hx; exact HSB.out) (by intro x hx; simp at hx; subst hx; have := HSL.out; omega) (by simp) (by decide) ((HT.out.below (HW.out.trans (hHeld.mono HW.out.size)) (Nat.le_refl _)).more (HW.out.trans (hHeld.mono HW.out.size)).size)
  rw [HSW.out] at hcall
  refine hcall.mono ?_
  clear hcall
  rintro e we1 ⟨rfl, hb⟩
  have HX := hide (hHeld.trans (hb.mono hHeld.size))
  clear hb
  refine hK.out _ _ HX.out (fun hHeld => ?_)
  clear HX hK K
  try simp only [Act.put, List.setIfInBounds_toArray, List.set_cons_zero, List.set_cons_succ]
  refine take_d 83 (i := 28) (v := .bool true) rfl (by kernel_rfl) (by kernel_rfl) (by kernel_rfl) (by kernel_rfl) (fun _ _ _ h => h) (Or.inl ⟨by kernel_rfl, fun w' hS => exec_eql_key _ _ _ rfl KW KWL.out rfl rfl⟩) hHeld ?_
  try simp only [Act.put, List.setIfInBounds_toArray, List.set_cons_zero, List.set_cons_succ]
  refine take_d 84 (i := 29) (v := .bool true) rfl (by kernel_rfl) (by kernel_rfl) (by kernel_rfl) (by kernel_rfl) (fun _ _ _ h => h) (Or.inl ⟨by kernel_rfl, fun w' hS => exec_pick_t _ _ _ rfl rfl _ rfl⟩) hHeld ?_
  try simp only [Act.put, List.setIfInBounds_toArray, List.set_cons_zero, List.set_cons_succ]
  refine take_d 85 (i := 30) (v := .bool true) rfl (by kernel_rfl) (by kernel_rfl) (by kernel_rfl) (by kernel_rfl) (fun _ _ _ h => h) (Or.inl ⟨by kernel_rfl, fun w' hS => exec_move _ rfl _ rfl⟩) hHeld ?_
  try simp only [Act.put, List.setIfInBounds_toArray, List.set_cons_zero, List.set_cons_succ]
  refine take_d 86 (i := 31) (v := .pointer (some ⟨gr, 1, none⟩)) rfl (by kernel_rfl) (by kernel_rfl) (by kernel_rfl) (by kernel_rfl) (fun _ _ _ h => h) (Or.inl ⟨by kernel_rfl, fun w' hS => exec_field _ 1 1 rfl gr rfl rfl⟩) hHeld ?_
  try simp only [Act.put, List.setIfInBounds_toArray, List.set_cons_zero, List.set_cons_succ]
  refine take_d 87 (i := 32) (v := .agg (u8s KR).toArray) rfl (by kernel_rfl) (by kernel_rfl) (by kernel_rfl) (by kernel_rfl) (fun _ _ _ h => h) (Or.inl ⟨by kernel_rfl, fun w' hS => exec_load_arr _ _ rfl gr 1 rfl _ (u8s KR) (by have := (Br.out.below hS Br.out.lt).keyRange; rw [E8.out] at this; exact this) Tryd.underlying23 rfl (by rw [u8s_len, KRL.out]; exact size_key)⟩) hHeld ?_
  try simp only [Act.put, List.setIfInBounds_toArray, List.set_cons_zero, List.set_cons_succ]
  refine take_d 88 (i := 33) (v := .pointer (some ⟨gw, 1, none⟩)) rfl (by kernel_rfl) (by kernel_rfl) (by kernel_rfl) (by kernel_rfl) (fun _ _ _ h => h) (Or.inl ⟨by kernel_rfl, fun w' hS => exec_field _ 1 1 rfl gw rfl rfl⟩) hHeld ?_
  try simp only [Act.put, List.setIfInBounds_toArray, List.set_cons_zero, List.set_cons_succ]
  refine take_d 89 (i := 34) (v := .slice (some ⟨gw, 1, none⟩) 16 16) rfl (by kernel_rfl) (by kernel_rfl) (by kernel_rfl) (by kernel_rfl) (fun _ _ _ h => h) (Or.inl ⟨by kernel_rfl, fun w' hS => exec_slice_key _ rfl gw 1 rfl⟩) hHeld ?_
  try simp only [Act.put, List.setIfInBounds_toArray, List.set_cons_zero, List.set_cons_succ]
  refine wpAnyH_ready (rs := [35]) (by kernel_rfl) (by simp) (AllReadyH.cons rfl (fun K hK => ?_) AllReadyH.nil)
  rw [if_pos (by kernel_rfl)]
  refine wp_rows1D 90 rfl _ rfl (.slice (some ⟨gw, 1, none⟩) 16 16) rfl rfl ?_
  generalize hgd : Array.size (World.heap _) = gd2
  intro wd2 hbd hwd
  have hX := hHeld.trans (hwd.mono (by rw [← hgd]; exact hHeld.size))
  have HRW2 := hide (rows_one hbd (by have := (Bw.out.below hX Bw.out.lt).keyRow (B := wd2.heap.size) (by have := (Bw.out.below hX Bw.out.lt).lt; omega); rw [EWK.out] at this; exact this))
  have HX := hide hX
  clear hbd hwd hX
  refine hK.out _ _ HX.out (fun hHeld => ?_)
  clear HX hK K
  try simp only [Act.put, List.setIfInBounds_toArray, List.set_cons_zero, List.set_cons_succ]
  refine wpAnyH_ready (rs := [36]) (by kernel_rfl) (by simp) (AllReadyH.cons rfl (fun K hK => ?_) AllReadyH.nil)
  rw [if_pos (by kernel_rfl)]
  try go_simp
  have hcall := Short_any tRead _ [KW] _ HRW2.out (by intro x hx; simp at hx; subst hx; exact KWB.out) (by intro x hx; simp at hx; subst hx; have := KWL.out; omega) (by simp) (by decide) ((HT.out.below (HW.out.trans (hHeld.mono HW.out.size)) (Nat.le_refl _)).more (HW.out.trans (hHeld.mono HW.out.size)).size)
  rw [HSR.out] at hcall
  refine hcall.mono ?_
  clear hcall
  rintro e we2 ⟨rfl, hb⟩
  have HX := hide (hHeld.trans (hb.mono hHeld.size))
  clear hb
  refine hK.out _ _ HX.out (fun hHeld => ?_)
  clear HX hK K
  try simp only [Act.put, List.setIfInBounds_toArray, List.set_cons_zero, List.set_cons_succ]
  refine take_d 92 (i := 37) (v := .bool true) rfl (by kernel_rfl) (by kernel_rfl) (by kernel_rfl) (by kernel_rfl) (fun _ _ _ h => h) (Or.inl ⟨by kernel_rfl, fun w' hS => exec_eql_key _ _ _ rfl KR KRL.out rfl rfl⟩) hHeld ?_
  try simp only [Act.put, List.setIfInBounds_toArray, List.set_cons_zero, List.set_cons_succ]
  refine take_d 93 (i := 38) (v := .bool true) rfl (by kernel_rfl) (by kernel_rfl) (by kernel_rfl) (by kernel_rfl) (fun _ _ _ h => h) (Or.inl ⟨by kernel_rfl, fun w' hS => exec_pick_t _ _ _ rfl rfl _ rfl⟩) hHeld ?_
  try simp only [Act.put, List.setIfInBounds_toArray, List.set_cons_zero, List.set_cons_succ]
  refine take_d 94 (i := 39) (v := .bool true) rfl (by kernel_rfl) (by kernel_rfl) (by kernel_rfl) (by kernel_rfl) (fun _ _ _ h => h) (Or.inl ⟨by kernel_rfl, fun w' hS => exec_move _ rfl _ rfl⟩) hHeld ?_
  try simp only [Act.put, List.setIfInBounds_toArray, List.set_cons_zero, List.set_cons_succ]
  refine take_d 95 (i := 40) (v := .pointer (some ⟨gv, 1, none⟩)) rfl (by kernel_rfl) (by kernel_rfl) (by kernel_rfl) (by kernel_rfl) (fun _ _ _ h => h) (Or.inl ⟨by kernel_rfl, fun w' hS => exec_field _ 1 1 rfl gv rfl rfl⟩) hHeld ?_
  try simp only [Act.put, List.setIfInBounds_toArray, List.set_cons_zero, List.set_cons_succ]
  refine take_d 96 (i := 41) (v := .agg (u8s KI).toArray) rfl (by kernel_rfl) (by kernel_rfl) (by kernel_rfl) (by kernel_rfl) (fun _ _ _ h => h) (Or.inl ⟨by kernel_rfl, fun w' hS => exec_load_arr _ _ rfl gv 1 rfl _ (u8s KI) (by have := (Bv.out.below hS Bv.out.lt).keyRange; rw [E9.out] at this; exact this) Tryd.underlying23 rfl (by rw [u8s_len, KIL.out]; exact size_key)⟩) hHeld ?_
  try simp only [Act.put, List.setIfInBounds_toArray, List.set_cons_zero, List.set_cons_succ]
  refine take_d 97 (i := 42) (v := .pointer (some ⟨gr, 1, none⟩)) rfl (by kernel_rfl) (by kernel_rfl) (by kernel_rfl) (by kernel_rfl) (fun _ _ _ h => h) (Or.inl ⟨by kernel_rfl, fun w' hS => exec_field _ 1 1 rfl gr rfl rfl⟩) hHeld ?_
  try simp only [Act.put, List.setIfInBounds_toArray, List.set_cons_zero, List.set_cons_succ]
  refine take_d 98 (i := 43) (v := .slice (some ⟨gr, 1, none⟩) 16 16) rfl (by kernel_rfl) (by kernel_rfl) (by kernel_rfl) (by kernel_rfl) (fun _ _ _ h => h) (Or.inl ⟨by kernel_rfl, fun w' hS => exec_slice_key _ rfl gr 1 rfl⟩) hHeld ?_
  try simp only [Act.put, List.setIfInBounds_toArray, List.set_cons_zero, List.set_cons_succ]
  refine wpAnyH_ready (rs := [44]) (by kernel_rfl) (by simp) (AllReadyH.cons rfl (fun K hK => ?_) AllReadyH.nil)
  rw [if_pos (by kernel_rfl)]
  refine wp_rows1D 99 rfl _ rfl (.slice (some ⟨gr, 1, none⟩) 16 16) rfl rfl ?_
  generalize hgd : Array.size (World.heap _) = gd3
  intro wd3 hbd hwd
  have hX := hHeld.trans (hwd.mono (by rw [← hgd]; exact hHeld.size))
  have HRW3 := hide (rows_one hbd (by have := (Br.out.below hX Br.out.lt).keyRow (B := wd3.heap.size) (by have := (Br.out.below hX Br.out.lt).lt; omega); rw [E8.out] at this; exact this))
  have HX := hide hX
  clear hbd hwd hX
  refine hK.out _ _ HX.out (fun hHeld => ?_)
  clear HX hK K
  try simp only [Act.put, List.setIfInBounds_toArray, List.set_cons_zero, List.set_cons_succ]
  refine wpAnyH_ready (rs := [45]) (by kernel_rfl) (by simp) (AllReadyH.cons rfl (fun K hK => ?_) AllReadyH.nil)
  rw [if_pos (by kernel_rfl)]
  try go_simp
  have hcall := Short_any tIndex _ [KR] _ HRW3.out (by intro x hx; simp at hx; subst hx; exact KRB.out) (by intro x hx; simp at hx; subst hx; have := KRL.out; omega) (by simp) (by decide) ((HT.out.below (HW.out.trans (hHeld.mono HW.out.size)) (Nat.le_refl _)).more (HW.out.trans (hHeld.mono HW.out.size)).size)
  rw [HSI.out] at hcall
  refine hcall.mono ?_
  clear hcall
  rintro e we3 ⟨rfl, hb⟩
  have HX := hide (hHeld.trans (hb.mono hHeld.size))
  clear hb
  refine hK.out _ _ HX.out (fun hHeld => ?_)
  clear HX hK K
  try simp only [Act.put, List.setIfInBounds_toArray, List.set_cons_zero, List.set_cons_succ]
  refine take_d 101 (i := 46) (v := .bool true) rfl (by kernel_rfl) (by kernel_rfl) (by kernel_rfl) (by kernel_rfl) (fun _ _ _ h => h) (Or.inl ⟨by kernel_rfl, fun w' hS => exec_eql_key _ _ _ rfl KI KIL.out rfl rfl⟩) hHeld ?_
  try simp only [Act.put, List.setIfInBounds_toArray, List.set_cons_zero, List.set_cons_succ]
  refine take_d 102 (i := 47) (v := .bool true) rfl (by kernel_rfl) (by kernel_rfl) (by kernel_rfl) (by kernel_rfl) (fun _ _ _ h => h) (Or.inl ⟨by kernel_rfl, fun w' hS => exec_pick_t _ _ _ rfl rfl _ rfl⟩) hHeld ?_
  try simp only [Act.put, List.setIfInBounds_toArray, List.set_cons_zero, List.set_cons_succ]
  refine take_d 103 (i := 48) (v := .bool true) rfl (by kernel_rfl) (by kernel_rfl) (by kernel_rfl) (by kernel_rfl) (fun _ _ _ h => h) (Or.inl ⟨by kernel_rfl, fun w' hS => exec_move _ rfl _ rfl⟩) hHeld ?_
  try simp only [Act.put, List.setIfInBounds_toArray, List.set_cons_zero, List.set_cons_succ]
  refine take_d 104 (i := 49) (v := .agg (u8s KI).toArray) rfl (by kernel_rfl) (by kernel_rfl) (by kernel_rfl) (by kernel_rfl) (fun _ _ _ h => h) (Or.inl ⟨by kernel_rfl, fun w' hS => exec_load_arr _ _ rfl gi 0 rfl _ (u8s KI) (blk_range (Bi.out.below hS Bi.out.lt) 0 _ (fun j u hu => by rw [Nat.zero_add]; exact hu)) Tryd.underlying23 rfl (by rw [u8s_len, KIL.out]; exact size_key)⟩) hHeld ?_
  try simp only [Act.put, List.setIfInBounds_toArray, List.set_cons_zero, List.set_cons_succ]
  refine take_d 105 (i := 50) (v := .pointer (some ⟨gv, 1, none⟩)) rfl (by kernel_rfl) (by kernel_rfl) (by kernel_rfl) (by kernel_rfl) (fun _ _ _ h => h) (Or.inl ⟨by kernel_rfl, fun w' hS => exec_field _ 1 1 rfl gv rfl rfl⟩) hHeld ?_
  try simp only [Act.put, List.setIfInBounds_toArray, List.set_cons_zero, List.set_cons_succ]
  refine take_d 106 (i := 51) (v := .agg (u8s KI).toArray) rfl (by kernel_rfl) (by kernel_rfl) (by kernel_rfl) (by kernel_rfl) (fun _ _ _ h => h) (Or.inl ⟨by kernel_rfl, fun w' hS => exec_load_arr _ _ rfl gv 1 rfl _ (u8s KI) (by have := (Bv.out.below hS Bv.out.lt).keyRange; rw [E9.out] at this; exact this) Tryd.underlying23 rfl (by rw [u8s_len, KIL.out]; exact size_key)⟩) hHeld ?_
  try simp only [Act.put, List.setIfInBounds_toArray, List.set_cons_zero, List.set_cons_succ]
  refine take_d 107 (i := 52) (v := .bool true) rfl (by kernel_rfl) (by kernel_rfl) (by kernel_rfl) (by kernel_rfl) (fun _ _ _ h => h) (Or.inl ⟨by kernel_rfl, fun w' hS => exec_eql_key _ _ _ rfl KI KIL.out rfl rfl⟩) hHeld ?_
  try simp only [Act.put, List.setIfInBounds_toArray, List.set_cons_zero, List.set_cons_succ]
  refine take_d 108 (i := 53) (v := .bool true) rfl (by kernel_rfl) (by kernel_rfl) (by kernel_rfl) (by kernel_rfl) (fun _ _ _ h => h) (Or.inl ⟨by kernel_rfl, fun w' hS => exec_pick_t _ _ _ rfl rfl _ rfl⟩) hHeld ?_
  try simp only [Act.put, List.setIfInBounds_toArray, List.set_cons_zero, List.set_cons_succ]
  refine take_d 109 (i := 54) (v := .bool true) rfl (by kernel_rfl) (by kernel_rfl) (by kernel_rfl) (by kernel_rfl) (fun _ _ _ h => h) (Or.inl ⟨by kernel_rfl, fun w' hS => exec_move _ rfl _ rfl⟩) hHeld ?_
  try simp only [Act.put, List.setIfInBounds_toArray, List.set_cons_zero, List.set_cons_succ]
  refine take_d 110 (i := 55) (v := .agg (u8s EN).toArray) rfl (by kernel_rfl) (by kernel_rfl) (by kernel_rfl) (by kernel_rfl) (fun _ _ _ h => h) (Or.inl ⟨by kernel_rfl, fun w' hS => exec_load_arr _ _ rfl ga 0 rfl _ (u8s EN) (blk_range (Ba.out.below hS Ba.out.lt) 0 _ (fun j u hu => by rw [Nat.zero_add]; exact hu)) Tryd.underlying23 rfl (by rw [u8s_len, ENL.out]; exact size_key)⟩) hHeld ?_
  try simp only [Act.put, List.setIfInBounds_toArray, List.set_cons_zero, List.set_cons_succ]
  refine take_d 111 (i := 56) (v := .agg (u8s EN).toArray) rfl (by kernel_rfl) (by kernel_rfl) (by kernel_rfl) (by kernel_rfl) (fun _ _ _ h => h) (Or.inl ⟨by kernel_rfl, fun w' hS => exec_load_arr _ _ rfl gb 0 rfl _ (u8s EN) (blk_range (Bb.out.below hS Bb.out.lt) 0 _ (fun j u hu => by rw [Nat.zero_add]; exact hu)) Tryd.underlying23 rfl (by rw [u8s_len, ENL.out]; exact size_key)⟩) hHeld ?_
  try simp only [Act.put, List.setIfInBounds_toArray, List.set_cons_zero, List.set_cons_succ]
  refine take_d 112 (i := 57) (v := .bool true) rfl (by kernel_rfl) (by kernel_rfl) (by kernel_rfl) (by kernel_rfl) (fun _ _ _ h => h) (Or.inl ⟨by kernel_rfl, fun w' hS => exec_eql_key _ _ _ rfl EN ENL.out rfl rfl⟩) hHeld ?_
  try simp only [Act.put, List.setIfInBounds_toArray, List.set_cons_zero, List.set_cons_succ]
  refine take_d 113 (i := 58) (v := .bool true) rfl (by kernel_rfl) (by kernel_rfl) (by kernel_rfl) (by kernel_rfl) (fun _ _ _ h => h) (Or.inl ⟨by kernel_rfl, fun w' hS => exec_pick_t _ _ _ rfl rfl _ rfl⟩) hHeld ?_
  try simp only [Act.put, List.setIfInBounds_toArray, List.set_cons_zero, List.set_cons_succ]
  refine take_d 114 (i := 59) (v := .bool true) rfl (by kernel_rfl) (by kernel_rfl) (by kernel_rfl) (by kernel_rfl) (fun _ _ _ h => h) (Or.inl ⟨by kernel_rfl, fun w' hS => exec_move _ rfl _ rfl⟩) hHeld ?_
  try simp only [Act.put, List.setIfInBounds_toArray, List.set_cons_zero, List.set_cons_succ]
  refine take_d 115 (i := 60) (v := .pointer (some ⟨gd, 0, none⟩)) rfl (by kernel_rfl) (by kernel_rfl) (by kernel_rfl) (by kernel_rfl) (fun _ _ _ h => h) (Or.inl ⟨by kernel_rfl, fun w' hS => exec_field _ 0 0 rfl gd rfl rfl⟩) hHeld ?_
  try simp only [Act.put, List.setIfInBounds_toArray, List.set_cons_zero, List.set_cons_succ]
  refine take_d 116 (i := 61) (v := .int .i64 7) rfl (by kernel_rfl) (by kernel_rfl) (by kernel_rfl) (by kernel_rfl) (fun _ _ _ h => h) (Or.inl ⟨by kernel_rfl, fun w' hS => exec_load_one _ _ rfl gd 0 rfl _ Tryd.underlying3 rfl _ (by have := (Bd.out.below hS Bd.out.lt).int_ (off := 0) rfl; rw [E12.out] at this; exact this)⟩) hHeld ?_
  try simp only [Act.put, List.setIfInBounds_toArray, List.set_cons_zero, List.set_cons_succ]
  refine take_d 117 (i := 62) (v := .bool true) rfl (by kernel_rfl) (by kernel_rfl) (by kernel_rfl) (by kernel_rfl) (fun _ _ _ h => h) (Or.inl ⟨by kernel_rfl, fun w' hS => exec_eql_int _ _ _ rfl 7 rfl rfl⟩) hHeld ?_
  try simp only [Act.put, List.setIfInBounds_toArray, List.set_cons_zero, List.set_cons_succ]
  refine take_d 118 (i := 63) (v := .bool true) rfl (by kernel_rfl) (by kernel_rfl) (by kernel_rfl) (by kernel_rfl) (fun _ _ _ h => h) (Or.inl ⟨by kernel_rfl, fun w' hS => exec_pick_t _ _ _ rfl rfl _ rfl⟩) hHeld ?_
  try simp only [Act.put, List.setIfInBounds_toArray, List.set_cons_zero, List.set_cons_succ]
  refine take_d 119 (i := 64) (v := .bool true) rfl (by kernel_rfl) (by kernel_rfl) (by kernel_rfl) (by kernel_rfl) (fun _ _ _ h => h) (Or.inl ⟨by kernel_rfl, fun w' hS => exec_move _ rfl _ rfl⟩) hHeld ?_
  try simp only [Act.put, List.setIfInBounds_toArray, List.set_cons_zero, List.set_cons_succ]
  refine take_d 120 (i := 65) (v := .pointer (some ⟨gr, 0, none⟩)) rfl (by kernel_rfl) (by kernel_rfl) (by kernel_rfl) (by kernel_rfl) (fun _ _ _ h => h) (Or.inl ⟨by kernel_rfl, fun w' hS => exec_field _ 0 0 rfl gr rfl rfl⟩) hHeld ?_
  try simp only [Act.put, List.setIfInBounds_toArray, List.set_cons_zero, List.set_cons_succ]
  refine take_d 121 (i := 66) (v := .int .i64 5) rfl (by kernel_rfl) (by kernel_rfl) (by kernel_rfl) (by kernel_rfl) (fun _ _ _ h => h) (Or.inl ⟨by kernel_rfl, fun w' hS => exec_load_one _ _ rfl gr 0 rfl _ Tryd.underlying3 rfl _ (by have := (Br.out.below hS Br.out.lt).int_ (off := 0) rfl; rw [E13.out] at this; exact this)⟩) hHeld ?_
  try simp only [Act.put, List.setIfInBounds_toArray, List.set_cons_zero, List.set_cons_succ]
  refine take_d 122 (i := 67) (v := .bool true) rfl (by kernel_rfl) (by kernel_rfl) (by kernel_rfl) (by kernel_rfl) (fun _ _ _ h => h) (Or.inl ⟨by kernel_rfl, fun w' hS => exec_eql_int _ _ _ rfl 5 rfl rfl⟩) hHeld ?_
  try simp only [Act.put, List.setIfInBounds_toArray, List.set_cons_zero, List.set_cons_succ]
  refine take_d 123 (i := 68) (v := .bool true) rfl (by kernel_rfl) (by kernel_rfl) (by kernel_rfl) (by kernel_rfl) (fun _ _ _ h => h) (Or.inl ⟨by kernel_rfl, fun w' hS => exec_pick_t _ _ _ rfl rfl _ rfl⟩) hHeld ?_
  try simp only [Act.put, List.setIfInBounds_toArray, List.set_cons_zero, List.set_cons_succ]
  refine take_d 124 (i := 69) (v := .bool true) rfl (by kernel_rfl) (by kernel_rfl) (by kernel_rfl) (by kernel_rfl) (fun _ _ _ h => h) (Or.inl ⟨by kernel_rfl, fun w' hS => exec_move _ rfl _ rfl⟩) hHeld ?_
  try simp only [Act.put, List.setIfInBounds_toArray, List.set_cons_zero, List.set_cons_succ]
  refine take_d 125 (i := 70) (v := .pointer (some ⟨gv, 0, none⟩)) rfl (by kernel_rfl) (by kernel_rfl) (by kernel_rfl) (by kernel_rfl) (fun _ _ _ h => h) (Or.inl ⟨by kernel_rfl, fun w' hS => exec_field _ 0 0 rfl gv rfl rfl⟩) hHeld ?_
  try simp only [Act.put, List.setIfInBounds_toArray, List.set_cons_zero, List.set_cons_succ]
  refine take_d 126 (i := 71) (v := .int .i64 6) rfl (by kernel_rfl) (by kernel_rfl) (by kernel_rfl) (by kernel_rfl) (fun _ _ _ h => h) (Or.inl ⟨by kernel_rfl, fun w' hS => exec_load_one _ _ rfl gv 0 rfl _ Tryd.underlying3 rfl _ (by have := (Bv.out.below hS Bv.out.lt).int_ (off := 0) rfl; rw [E14.out] at this; exact this)⟩) hHeld ?_
  try simp only [Act.put, List.setIfInBounds_toArray, List.set_cons_zero, List.set_cons_succ]
  refine take_d 127 (i := 72) (v := .bool true) rfl (by kernel_rfl) (by kernel_rfl) (by kernel_rfl) (by kernel_rfl) (fun _ _ _ h => h) (Or.inl ⟨by kernel_rfl, fun w' hS => exec_eql_int _ _ _ rfl 6 rfl rfl⟩) hHeld ?_
  try simp only [Act.put, List.setIfInBounds_toArray, List.set_cons_zero, List.set_cons_succ]
  refine take_d 128 (i := 73) (v := .bool true) rfl (by kernel_rfl) (by kernel_rfl) (by kernel_rfl) (by kernel_rfl) (fun _ _ _ h => h) (Or.inl ⟨by kernel_rfl, fun w' hS => exec_pick_t _ _ _ rfl rfl _ rfl⟩) hHeld ?_
  try simp only [Act.put, List.setIfInBounds_toArray, List.set_cons_zero, List.set_cons_succ]
  refine take_d 129 (i := 74) (v := .bool true) rfl (by kernel_rfl) (by kernel_rfl) (by kernel_rfl) (by kernel_rfl) (fun _ _ _ h => h) (Or.inl ⟨by kernel_rfl, fun w' hS => exec_move _ rfl _ rfl⟩) hHeld ?_
  try simp only [Act.put, List.setIfInBounds_toArray, List.set_cons_zero, List.set_cons_succ]
  refine take_d 130 (i := 75) (v := .pointer (some ⟨gv, 17, none⟩)) rfl (by kernel_rfl) (by kernel_rfl) (by kernel_rfl) (by kernel_rfl) (fun _ _ _ h => h) (Or.inl ⟨by kernel_rfl, fun w' hS => exec_field _ 2 17 rfl gv rfl rfl⟩) hHeld ?_
  try simp only [Act.put, List.setIfInBounds_toArray, List.set_cons_zero, List.set_cons_succ]
  refine take_d 131 (i := 76) (v := .agg (u8s P).toArray) rfl (by kernel_rfl) (by kernel_rfl) (by kernel_rfl) (by kernel_rfl) (fun _ _ _ h => h) (Or.inl ⟨by kernel_rfl, fun w' hS => exec_load_arr _ _ rfl gv 17 rfl _ (u8s P) (by have := (Bv.out.below hS Bv.out.lt).fpRange; rw [E15.out] at this; exact this) Tryd.underlying25 rfl (by rw [u8s_len, HPL.out]; exact size_hash)⟩) hHeld ?_
  try simp only [Act.put, List.setIfInBounds_toArray, List.set_cons_zero, List.set_cons_succ]
  refine take_d 132 (i := 77) (v := .agg (u8s P).toArray) rfl (by kernel_rfl) (by kernel_rfl) (by kernel_rfl) (by kernel_rfl) (fun _ _ _ h => h) (Or.inl ⟨by kernel_rfl, fun w' hS => exec_load_arr _ _ rfl gf 0 rfl _ (u8s P) (blk_range (Bf.out.below hS Bf.out.lt) 0 _ (fun j u hu => by rw [Nat.zero_add]; exact hu)) Tryd.underlying25 rfl (by rw [u8s_len, HPL.out]; exact size_hash)⟩) hHeld ?_
  try simp only [Act.put, List.setIfInBounds_toArray, List.set_cons_zero, List.set_cons_succ]
  refine take_d 133 (i := 78) (v := .bool true) rfl (by kernel_rfl) (by kernel_rfl) (by kernel_rfl) (by kernel_rfl) (fun _ _ _ h => h) (Or.inl ⟨by kernel_rfl, fun w' hS => exec_eql_hash _ _ _ rfl P HPL.out rfl rfl⟩) hHeld ?_
  try simp only [Act.put, List.setIfInBounds_toArray, List.set_cons_zero, List.set_cons_succ]
  refine take_d 134 (i := 79) (v := .bool true) rfl (by kernel_rfl) (by kernel_rfl) (by kernel_rfl) (by kernel_rfl) (fun _ _ _ h => h) (Or.inl ⟨by kernel_rfl, fun w' hS => exec_pick_t _ _ _ rfl rfl _ rfl⟩) hHeld ?_
  try simp only [Act.put, List.setIfInBounds_toArray, List.set_cons_zero, List.set_cons_succ]
  refine take_d 135 (i := 80) (v := .bool true) rfl (by kernel_rfl) (by kernel_rfl) (by kernel_rfl) (by kernel_rfl) (fun _ _ _ h => h) (Or.inl ⟨by kernel_rfl, fun w' hS => exec_move _ rfl _ rfl⟩) hHeld ?_
  try simp only [Act.put, List.setIfInBounds_toArray, List.set_cons_zero, List.set_cons_succ]
  refine wpAnyH_ready (rs := [81]) (by kernel_rfl) (by simp) (AllReadyH.cons rfl (fun K hK => ?_) AllReadyH.nil)
  rw [if_pos (by kernel_rfl)]
  try go_simp
  refine (wakes13 _ ((HT.out.below (HW.out.trans (hHeld.mono HW.out.size)) (Nat.le_refl _)).more (HW.out.trans (hHeld.mono HW.out.size)).size)).mono ?_
  rintro e wk ⟨rfl, hb⟩
  have HX := hide (hHeld.trans (hb.mono hHeld.size))
  clear hb
  refine hK.out _ _ HX.out (fun hHeld => ?_)
  clear HX hK K
  try simp only [Act.put, List.setIfInBounds_toArray, List.set_cons_zero, List.set_cons_succ]
  refine take_d 137 (i := 82) (v := .bool true) rfl (by kernel_rfl) (by kernel_rfl) (by kernel_rfl) (by kernel_rfl) (fun _ _ _ h => h) (Or.inl ⟨by kernel_rfl, fun w' hS => exec_pick_t _ _ _ rfl rfl _ rfl⟩) hHeld ?_
  try simp only [Act.put, List.setIfInBounds_toArray, List.set_cons_zero, List.set_cons_succ]
  refine take_d 6 (i := 83) (v := .bool true) rfl (by kernel_rfl) (by kernel_rfl) (by kernel_rfl) (by kernel_rfl) (fun _ _ _ h => h) (Or.inl ⟨by kernel_rfl, fun w' hS => exec_assign _ rfl _ rfl⟩) hHeld ?_
  try simp only [Act.put, List.setIfInBounds_toArray, List.set_cons_zero, List.set_cons_succ]
  refine wpAnyH_done (by kernel_rfl) ?_ _
  replace HW := hide (HW.out.trans (hHeld.mono HW.out.size))
  clear hHeld
  go_wp2_with fail
  go_ret
  exact ⟨rfl, HW.out⟩
set_option maxRecDepth 100000 in
theorem lifted (os : Os) (started : os.Started) (H : Type) (enc : TypeId × Value → H) :
    ReturnsInHanded {} Tryd.checked os 11 .any (fun w args => (Rows.capsKeysSpec.pre enc Tryd.prog Tryd.f11 [] false w args ∧ laidMetH Tryd.prog laidD w) ∧ sizedMet enc Tryd.prog Tryd.f11 (OpenSpec.ofChange Rows.capsKeysSpec) false w args)
      (Rows.capsKeysSpec.post enc Tryd.prog Tryd.f11 false true false false) := by
  refine returnsInHanded_of_change_and (C := Tryd.checked) (X := fun w _ => laidMetH Tryd.prog laidD w) (fun _ _ _ hh h => h.of_heap hh) own started (by kernel_rfl) Tryd.func11
    (ChangeSpec.witness_shaped (enc := enc) (C := Tryd.checked) (os := os) (X := fun w _ => laidMetH Tryd.prog laidD w) false (World.doorLaid Tryd.prog doorSteps os) #[.agg #[.int .u8 0, .int .u8 0, .int .u8 0, .int .u8 0, .int .u8 0, .int .u8 0, .int .u8 0, .int .u8 0, .int .u8 0, .int .u8 0, .int .u8 0, .int .u8 0, .int .u8 0, .int .u8 0, .int .u8 0, .int .u8 0], .agg #[.int .u8 0, .int .u8 0, .int .u8 0, .int .u8 0, .int .u8 0, .int .u8 0, .int .u8 0, .int .u8 0, .int .u8 0, .int .u8 0, .int .u8 0, .int .u8 0, .int .u8 0, .int .u8 0, .int .u8 0, .int .u8 0, .int .u8 0, .int .u8 0, .int .u8 0, .int .u8 0, .int .u8 0, .int .u8 0, .int .u8 0, .int .u8 0, .int .u8 0, .int .u8 0, .int .u8 0, .int .u8 0, .int .u8 0, .int .u8 0, .int .u8 0, .int .u8 0], .int .i64 0] 8 rfl (World.shaped_of_RefB (by kernel_rfl) (by kernel_rfl)) (by kernel_rfl) (by kernel_rfl) (by kernel_rfl) (door_met os _)) ?_
  intro W base args ds gs before hval0 hW _ _ hL _
  have hT := tab_of hL
  have hval : ∀ (j : Nat) t v, Tryd.f11.params[j]? = some t → args[j]? = some v → Value.okWide Tryd.prog W .any base t v := hval0
  have hW' := hW
  obtain ⟨p, q, hA0, hV, rfl, hfz, hnd⟩ := hW
  have hA : DataW.TrodAll enc Tryd.prog W 0 (fun _ => true) true Tryd.f11.params.toList args.toList ds p := hA0
  rw [Tryd.params11] at hA hval
  obtain ⟨v0, vs0, d0, ds0, p0, q0, hargs, rfl, rfl, h0, r0⟩ := trodAll_cons hA
  obtain ⟨v1, vs1, d1, ds1, p1, q1, rfl, rfl, rfl, h1, r1⟩ := trodAll_cons r0
  obtain ⟨v2, vs2, d2, ds2, p2, q2, rfl, rfl, rfl, h2, r2⟩ := trodAll_cons r1
  obtain ⟨rfl, rfl, rfl⟩ := trodAll_nil r2
  obtain rfl : args = #[v0, v1, v2] := by cases args; simp_all
  obtain ⟨rfl, rfl⟩ := trodVars_none hV
  have k0 := h0
  have lt0 : ∀ x ∈ p0, x.block < W.heap.size := by obtain ⟨m, hm⟩ := k0; exact DataW.trod_lt m _ _ _ hm
  obtain ⟨z0, rfl, w0, b0⟩ := read_arr16_key (hval 0 23 v0 rfl rfl) h0
  have k1 := h1
  have lt1 : ∀ x ∈ p1, x.block < W.heap.size := by obtain ⟨m, hm⟩ := k1; exact DataW.trod_lt m _ _ _ hm
  obtain ⟨z1, rfl, w1, b1⟩ := read_hash_hash (hval 1 25 v1 rfl rfl) h1
  obtain ⟨a2, rfl, rfl, rfl, wf2⟩ := open_int Tryd.underlying3 (hval 2 3 v2 rfl rfl) h2
  clear hA0 hval0
  refine (walk W hT z0 w0 b0 z1 w1 b1 a2 (in64_wf wf2)).mono fun e W' ⟨he, bel⟩ => ?_
  subst he
  exact ⟨_, rfl, _, _, _, [], _, [], hW', trodAll_mk1 (shut_bool Tryd.underlying4 _), (trodAll_cons_mk (Below.trod laidOut (by kernel_rfl) (of_decide_eq_true (by kernel_rfl)) k0 bel lt0) (trodAll_cons_mk (Below.trod laidOut (by kernel_rfl) (of_decide_eq_true (by kernel_rfl)) k1 bel lt1) (trodAll_cons_mk (shut_int Tryd.underlying3 wf2) trodAll_mk0))), rfl, bel.frame _, fun h => by cases h⟩

theorem over : Rows.capsKeysRow.holds Tryd.pinned (OpenSpec.ofChange Rows.capsKeysSpec) :=
  OpenClaim.holds_of_wide 11 Tryd.f11 rfl rfl rfl rfl rfl rfl rfl ⟨rfl, rfl, rfl, rfl, rfl⟩ rfl rfl rfl rfl rfl (by kernel_rfl) Tryd.func11 (by kernel_rfl)
    (of_decide_eq_true (by kernel_rfl)) (by unfold Func.isWrapper; rw [if_neg (of_decide_eq_false (by kernel_rfl))]; exact ⟨rfl, rfl⟩)
    (fun os started H enc _ => lifted os started H enc)

theorem proved : Rows.CapsKeysCardSaid :=
  Claim7.holds_tied_plain_at .later [] Rows.capsKeysCard.laidKinds true Rows.capsKeysCard.stood.harness Rows.capsKeysCard.stood.looks
    over (fun _ h => by cases h) (by kernel_rfl) (fun _ h => by cases h) capsKeys_row_tie rfl ⟨rfl, rfl⟩ (by kernel_rfl) rfl
    (fun f fn hf hfn => by
      obtain rfl : f = 11 := Option.some.inj ((show Tryd.prog.funcNamed "aumbry/aumbrylaw13.CapsKeys" = some 11 by kernel_rfl).symm.trans hf) |>.symm
      obtain rfl : fn = Tryd.f11 := (Option.some.inj (Tryd.func11.symm.trans hfn)).symm
      exact ⟨by kernel_rfl, fun j t ht => by
        have ht' : Tryd.f11.params[j]? = some t := ht
        rw [Tryd.params11] at ht'
        have hm : t ∈ [23, 25, 3] := by simpa using Array.mem_of_getElem? ht'
        have hall : ([23, 25, 3].all fun u => !Tryd.prog.wantsStandIn u) = true := by kernel_rfl
        exact (show Tryd.prog.wantsStandIn t = false by simpa using List.all_eq_true.1 hall t hm)⟩)
    (by kernel_rfl)
end Go.Proofs.YtgjepahhbecljaaDoor.LawCapsKeys
