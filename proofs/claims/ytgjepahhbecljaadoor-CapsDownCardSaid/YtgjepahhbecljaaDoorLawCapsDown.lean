/-
CapsDown holds: from less to more no way leads. Conditions: none but the row's own.
-/
import Derived.Test.YtgjepahhbecljaaDoorKeyLaws
import Derived.Test.YtgjepahhbecljaaDoorCapKeys
import Derived.Test.YtgjepahhbecljaaDoorWakes13
import Derived.Test.YtgjepahhbecljaaDoorSameCap
import Derived.Test.YtgjepahhbecljaaDoorTied
namespace Go.Proofs.YtgjepahhbecljaaDoor.LawCapsDown
open Go Go.RowKit Go.ChangeShapes Go.WideShapes Go.ChangeAt
set_option linter.unusedVariables false
set_option maxRecDepth 100000
section
variable {ops : Array Oper} {rest : List Oper} {o : Oper} {a : Act} {w : World} {Q : Exit → Act → World → Prop}
theorem wpList_neq_key (x y : Operand) (t' : TypeId) (ho : o.op = .binOp .neq 23 x y t') (xs : List Int) (hx : a.eval x = .agg (u8s xs).toArray) (hy : a.eval y = .agg (u8s xs).toArray)
    (hw : Region.wanted o (yielded ops a.tmps) = true) (hxl : xs.length = 16)
    (h : wpList Tryd.prog ops Q rest (a.put o.dst (.bool false)) w) : wpList Tryd.prog ops Q (o :: rest) a w :=
  wpList_go hw fun _ hK => wp_value _ (by
    unfold execOp
    have := run_neq_arr (P := Tryd.prog) w Tryd.underlying23 Tryd.underlying5 (by kernel_rfl) xs xs hxl hxl
    simp only [ho, hx, hy, u8s, Sem.run_bind, run_eqGuard_agg w _ _ _ _ _ _ (show Tryd.prog.eqGuardType Tryd.prog.depth 23 = false by kernel_rfl), this, Result.andThen_ok, Sem.run_pure]
    simp) (hK _ _ h)
theorem wpList_neq_hash (x y : Operand) (t' : TypeId) (ho : o.op = .binOp .neq 25 x y t') (xs : List Int) (hx : a.eval x = .agg (u8s xs).toArray) (hy : a.eval y = .agg (u8s xs).toArray)
    (hw : Region.wanted o (yielded ops a.tmps) = true) (hxl : xs.length = 32)
    (h : wpList Tryd.prog ops Q rest (a.put o.dst (.bool false)) w) : wpList Tryd.prog ops Q (o :: rest) a w :=
  wpList_go hw fun _ hK => wp_value _ (by
    unfold execOp
    have := run_neq_arr (P := Tryd.prog) w Tryd.underlying25 Tryd.underlying5 (by kernel_rfl) xs xs hxl hxl
    simp only [ho, hx, hy, u8s, Sem.run_bind, run_eqGuard_agg w _ _ _ _ _ _ (show Tryd.prog.eqGuardType Tryd.prog.depth 25 = false by kernel_rfl), this, Result.andThen_ok, Sem.run_pure]
    simp) (hK _ _ h)
theorem wpList_load_key {g : Nat} {k : List Int} (hgw : Region.wanted o (yielded ops a.tmps) = true) (x : Operand) (ho : o.op = .load 23 x) (hx : a.eval x = .pointer (some ⟨g, 0, none⟩)) (hB : Blk w g 23 (u8s k)) (hk : k.length = 16)
    (h : wpList Tryd.prog ops Q rest (a.put o.dst (.agg (u8s k).toArray)) w) : wpList Tryd.prog ops Q (o :: rest) a w :=
  wpList_go hgw fun _ hK => wp_load_mid _ x ho g 0 hx _ _ (blk_range hB 0 _ (fun j u hu => by rw [Nat.zero_add]; exact hu)) Tryd.underlying23 rfl (by rw [u8s_len, hk]; exact size_key) (hK _ _ h)
end

set_option maxHeartbeats 16000000 in
theorem walk (w : World) (ht : Tab w w.heap.size) (a : CapD) (la : Value) (hca : a.In) (hla : Bs w w.heap.size la a.lit) :
    Calls Tryd.prog 10 #[capV a la] w fun e w' => e = .returned (.bool true) ∧ Below w.heap.size w w' := by
  have HRA := hide (fun (w' : World) (hw : Below w.heap.size w w') => right_any a la w' hca ((hla.below hw (Nat.le_refl _)).more hw.size))
  have hwf := right_wf hca.toWf
  have hva := right_valid a
  have hlit := right_lit a
  have A1 := hide hca.keyL
  have A2 := hide hca.fpL
  have A3 := hide hla.one
  have HT := hide ht
  clear hla ht
  obtain ⟨VA, EVA⟩ : ∃ x, Hid (capV a la = x) := ⟨_, hide rfl⟩
  rw [EVA.out] at HRA ⊢
  obtain ⟨C, EC⟩ : ∃ x, Hid (rightF a = x) := ⟨_, hide rfl⟩
  rw [EC.out] at HRA hwf hva hlit
  clear hca
  have HWF := hide hwf
  have HCK := hide hwf.keyL
  have HCF := hide hwf.fpL
  have hlitn : C.lit.length ≤ 1000000 := by omega
  go_enter Tryd.func10, Tryd.ntmps10
  obtain ⟨gc, hgc⟩ : ∃ n, w.heap.size = n := ⟨_, rfl⟩
  have hwgc : w.heap.size ≤ gc := by omega
  go_wp2_with (first
    | (refine wpList_cap_new _ rfl (EVA.out.symm) rfl A1.out A2.out A3.out ?_; intro w1 hb1 hw1 hs1; rw [hgc] at hb1 ⊢; have B0 := hide hb1; have HW := hide hw1; clear hb1 hw1)
    | (refine wpList_cap_all _ rfl rfl rfl B0.out ?_; rw [EVA.out]))
  refine (HRA.out _ HW.out).mono ?_
  rintro e w2 ⟨lc, rfl, ho, hb⟩
  have hz0 := hb.size
  replace B0 := hide (B0.out.below hb B0.out.lt)
  replace HW := hide (HW.out.trans (hb.mono HW.out.size))
  have HO := hide ho
  have LOc := hide (own_one ho lc (by simp))
  clear hb ho
  obtain ⟨Vc, EVc⟩ : ∃ x, Hid (capV C lc = x) := ⟨_, hide rfl⟩
  rw [EVc.out]
  obtain ⟨m0, hm0⟩ : ∃ n, w2.heap.size = n := ⟨_, rfl⟩
  have hgm : gc < m0 := by have := B0.out.lt; omega
  by_cases h3 : C.kind = 3
  · obtain ⟨e1, e2, e3, e4, e5⟩ := lit_laws hva h3
    have k3 : (C.kind == 3) = true := by simp [h3]
    obtain ⟨IX, HIX⟩ : ∃ x, Hid (ixF C = x) := ⟨_, hide rfl⟩
    have HIXL := hide (show IX.length = 16 by rw [← HIX.out]; exact (voF_wf HWF.out).keyL)
    have HVE := hide e1
    have HRO := hide e4
    have HRE := hide e5
    have HVO := hide e2
    have HSS := hide (sameF_self C)
    obtain ⟨NN, HNN⟩ : ∃ x, Hid (CapD.none_ = x) := ⟨_, hide rfl⟩
    have HN1 := hide (show NN.key.length = 16 by rw [← HNN.out]; rfl)
    have HN2 := hide (show NN.fp.length = 32 by rw [← HNN.out]; rfl)
    clear e1 e2 e3 e4 e5 h3 hva
    go_wp2_with (first
        | (refine wpList_cap_putAll _ _ rfl rfl rfl B0.out C lc EVc.out.symm HCK.out HCF.out LOc.out ?_; intro w3 hb3 hg3 hs3; have Bc := hide hb3; have hO3 := HO.out.kept hg3 (.inr (by rintro h; exact own_ne_blk HO.out B0.out.blk (by decide) h.symm)); have Lc := hide (show Bs w3 m0 lc C.lit from (by have := Own8.reads (w := w3) hO3; rw [hs3, hm0] at this; exact this)); replace HW := hide (HW.out.grown hg3 HW.out.size (by intro k hk; simp at hk; omega)); have hz3 : m0 ≤ w3.heap.size := (by omega); clear hb3 hg3 hs3 B0 HO)
        | (refine wpList_cap_all _ rfl rfl rfl Bc.out ?_; rw [EVc.out]))
    have hcall := Index_any C lc w3 HWF.out (Lc.out.more (by omega)) hlitn ((HT.out.below HW.out (Nat.le_refl _)).more HW.out.size)
    rw [EVc.out, HIX.out, HVE.out] at hcall
    refine hcall.mono ?_
    clear hcall
    rintro e wc1 ⟨rfl, hb⟩
    have hz1 := hb.size
    replace Lc := hide (Lc.out.below hb (by have := Bc.out.lt; omega))
    replace Bc := hide (Bc.out.below hb Bc.out.lt)
    replace HW := hide (HW.out.trans (hb.mono HW.out.size))
    clear hb
    obtain ⟨gi, hgi⟩ : ∃ n, wc1.heap.size = n := ⟨_, rfl⟩
    have hwgi : w.heap.size ≤ gi := by have := HW.out.size; omega
    have hgcgi : gc < gi := by have := Bc.out.lt; omega
    go_wp2_with (first
        | (refine wpList_alloc_blk rfl 23 rfl _ zero_key ?_; intro wa1 hba hwa hsa; rw [hgi] at hba hwa hsa; try rw [hgi]; have Bi := hide hba; replace Lc := hide (Lc.out.below hwa (by omega)); replace Bc := hide (Bc.out.below hwa (by omega)); replace HW := hide (HW.out.trans (hwa.mono (by omega))); have hza1 : gi + 1 ≤ wa1.heap.size := (by omega); clear hba hwa hsa)
        | (refine wpList_store_blk rfl 23 _ _ rfl gi 0 (u8s IX) rfl (by exact rfl) _ _ Bi.out (by rw [u8s_len, u8s_len, HIXL.out]; simp) (by rw [u8s_len, HIXL.out]; exact size_key) (u8s_one _) ?_; intro ws1 hbs hgs hss; rw [lset_all _ _ (by rw [u8s_len, u8s_len, HIXL.out]; rfl)] at hbs; have hbt := (Below.refl gi _).grown hgs (by have := Bi.out.lt; omega) (by intro k hk; simp at hk; omega); replace Lc := hide (Lc.out.below hbt (by omega)); replace Bc := hide (Bc.out.grown hgs (by intro h; injection h with h; omega)); replace HW := hide (HW.out.grown hgs HW.out.size (by intro k hk; simp at hk; omega)); clear hbt; replace Bi := hide hbs; have hzs1 : gi + 1 ≤ ws1.heap.size := (by omega); clear hbs hgs hss)
        | (refine wpList_cap_int _ rfl 0 rfl rfl Bc.out _ rfl ?_)
        | (refine wpList_cap_all _ rfl rfl rfl Bc.out ?_; rw [EVc.out]))
    have hcall := ReadOnly_any C lc _ HWF.out (Lc.out.more (by omega)) hlitn ((HT.out.below HW.out (Nat.le_refl _)).more HW.out.size)
    rw [EVc.out, HRO.out, HRE.out] at hcall
    refine hcall.mono ?_
    clear hcall
    rintro e wc2 ⟨lr, rfl, hl, hb⟩
    have hz2 := hb.size
    replace Lc := hide (Lc.out.below hb (by have := Bc.out.lt; omega))
    replace Bc := hide (Bc.out.below hb Bc.out.lt)
    replace Bi := hide (Bi.out.below hb Bi.out.lt)
    replace HW := hide (HW.out.trans (hb.mono HW.out.size))
    have Lr := hide hl
    have LOr := hide hl.one
    clear hl
    clear hb
    obtain ⟨Vr, EVr⟩ : ∃ x, Hid (capV C lr = x) := ⟨_, hide rfl⟩
    rw [EVr.out]
    obtain ⟨gr, hgr⟩ : ∃ n, wc2.heap.size = n := ⟨_, rfl⟩
    have hwgr : w.heap.size ≤ gr := by have := HW.out.size; omega
    have hgcgr : gc < gr := by have := Bc.out.lt; omega
    have hgigr : gi < gr := by have := Bi.out.lt; omega
    rw [hgr] at Lr
    go_wp2_with (first
        | (refine wpList_cap_zero rfl rfl ?_; intro wa2 hba hwa hsa; rw [hgr] at hba hwa hsa; try rw [hgr]; have Br := hide hba; replace Lc := hide (Lc.out.below hwa (by omega)); replace Lr := hide (Lr.out.below hwa (by omega)); replace Bc := hide (Bc.out.below hwa (by omega)); replace Bi := hide (Bi.out.below hwa (by omega)); replace HW := hide (HW.out.trans (hwa.mono (by omega))); have hza2 : gr + 1 ≤ wa2.heap.size := (by omega); clear hba hwa hsa)
        | (refine wpList_cap_putAll _ _ rfl rfl rfl Br.out C lr EVr.out.symm HCK.out HCF.out LOr.out ?_; intro ws2 hbs hgs hss; have hbt := (Below.refl gr _).grown hgs (by have := Br.out.lt; omega) (by intro k hk; simp at hk; omega); replace Lc := hide (Lc.out.below hbt (by omega)); replace Bc := hide (Bc.out.grown hgs (by intro h; injection h with h; omega)); replace Bi := hide (Bi.out.grown hgs (by intro h; injection h with h; omega)); replace HW := hide (HW.out.grown hgs HW.out.size (by intro k hk; simp at hk; omega)); replace Lr := hide (Lr.out.below hbt (by omega)); clear hbt; replace Br := hide hbs; have hzs2 : gr + 1 ≤ ws2.heap.size := (by omega); clear hbs hgs hss)
        | (refine wpList_cap_all _ rfl rfl rfl Bc.out ?_; rw [EVc.out]))
    have hcall := VerifyOnly_any C lc _ HWF.out (Lc.out.more (by omega)) hlitn ((HT.out.below HW.out (Nat.le_refl _)).more HW.out.size)
    rw [EVc.out, HVO.out, HVE.out, HNN.out] at hcall
    refine hcall.mono ?_
    clear hcall
    rintro e wc3 ⟨lv, rfl, hl, hb⟩
    have hz3 := hb.size
    replace Lc := hide (Lc.out.below hb (by have := Bc.out.lt; omega))
    replace Lr := hide (Lr.out.below hb (by have := Br.out.lt; omega))
    replace Bc := hide (Bc.out.below hb Bc.out.lt)
    replace Bi := hide (Bi.out.below hb Bi.out.lt)
    replace Br := hide (Br.out.below hb Br.out.lt)
    replace HW := hide (HW.out.trans (hb.mono HW.out.size))
    have Lv := hide hl
    have LOv := hide hl.one
    clear hl
    clear hb
    obtain ⟨Vv, EVv⟩ : ∃ x, Hid (capV NN lv = x) := ⟨_, hide rfl⟩
    rw [EVv.out]
    obtain ⟨gv, hgv⟩ : ∃ n, wc3.heap.size = n := ⟨_, rfl⟩
    have hwgv : w.heap.size ≤ gv := by have := HW.out.size; omega
    have hgcgv : gc < gv := by have := Bc.out.lt; omega
    have hgigv : gi < gv := by have := Bi.out.lt; omega
    have hgrgv : gr < gv := by have := Br.out.lt; omega
    rw [hgv] at Lv
    go_wp2_with (first
        | go_skip
        | (refine wpList_cap_zero rfl rfl ?_; intro wa3 hba hwa hsa; rw [hgv] at hba hwa hsa; try rw [hgv]; have Bv := hide hba; replace Lc := hide (Lc.out.below hwa (by omega)); replace Lr := hide (Lr.out.below hwa (by omega)); replace Lv := hide (Lv.out.below hwa (by omega)); replace Bc := hide (Bc.out.below hwa (by omega)); replace Bi := hide (Bi.out.below hwa (by omega)); replace Br := hide (Br.out.below hwa (by omega)); replace HW := hide (HW.out.trans (hwa.mono (by omega))); have hza3 : gv + 1 ≤ wa3.heap.size := (by omega); clear hba hwa hsa)
        | (refine wpList_cap_putAll _ _ rfl rfl rfl Bv.out NN lv EVv.out.symm HN1.out HN2.out LOv.out ?_; intro ws3 hbs hgs hss; have hbt := (Below.refl gv _).grown hgs (by have := Bv.out.lt; omega) (by intro k hk; simp at hk; omega); replace Lc := hide (Lc.out.below hbt (by omega)); replace Lr := hide (Lr.out.below hbt (by omega)); replace Bc := hide (Bc.out.grown hgs (by intro h; injection h with h; omega)); replace Bi := hide (Bi.out.grown hgs (by intro h; injection h with h; omega)); replace Br := hide (Br.out.grown hgs (by intro h; injection h with h; omega)); replace HW := hide (HW.out.grown hgs HW.out.size (by intro k hk; simp at hk; omega)); replace Lv := hide (Lv.out.below hbt (by omega)); clear hbt; replace Bv := hide hbs; have hzs3 : gv + 1 ≤ ws3.heap.size := (by omega); clear hbs hgs hss)
        | (refine wpList_cap_all _ rfl rfl rfl Br.out ?_; rw [EVr.out])
        | (refine wpList_cap_all _ rfl rfl rfl Bc.out ?_; rw [EVc.out]))
    have hcall := same_caps C C lr lc _ HCK.out HCF.out HCK.out HCF.out (Lr.out.more (by omega)) (Lc.out.more (by omega)) HWF.out.litB HWF.out.litB
    rw [EVr.out, EVc.out, HSS.out] at hcall
    refine hcall.mono ?_
    clear hcall
    rintro e wc4 ⟨rfl, hb⟩
    have hz4 := hb.size
    replace Lc := hide (Lc.out.below hb (by have := Bc.out.lt; omega))
    replace Lr := hide (Lr.out.below hb (by have := Br.out.lt; omega))
    replace Lv := hide (Lv.out.below hb (by have := Bv.out.lt; omega))
    replace Bc := hide (Bc.out.below hb Bc.out.lt)
    replace Bi := hide (Bi.out.below hb Bi.out.lt)
    replace Br := hide (Br.out.below hb Br.out.lt)
    replace Bv := hide (Bv.out.below hb Bv.out.lt)
    replace HW := hide (HW.out.trans (hb.mono HW.out.size))
    clear hb
    go_wp2_with (first
        | go_skip
        | fail)
    have hcall := wakes13 _ ((HT.out.below HW.out (Nat.le_refl _)).more HW.out.size)
    refine hcall.mono ?_
    clear hcall
    rintro e wc5 ⟨rfl, hb⟩
    have hz5 := hb.size
    replace Lc := hide (Lc.out.below hb (by have := Bc.out.lt; omega))
    replace Lr := hide (Lr.out.below hb (by have := Br.out.lt; omega))
    replace Lv := hide (Lv.out.below hb (by have := Bv.out.lt; omega))
    replace Bc := hide (Bc.out.below hb Bc.out.lt)
    replace Bi := hide (Bi.out.below hb Bi.out.lt)
    replace Br := hide (Br.out.below hb Br.out.lt)
    replace Bv := hide (Bv.out.below hb Bv.out.lt)
    replace HW := hide (HW.out.trans (hb.mono HW.out.size))
    clear hb
    go_wp2_with fail
    go_ret
    exact ⟨rfl, HW.out⟩
  · have hlw := vo_laws hva h3
    have k3 : (C.kind == 3) = false := by simp [h3]
    obtain ⟨IX, HIX⟩ : ∃ x, Hid (ixF C = x) := ⟨_, hide rfl⟩
    have hvwf := voF_wf HWF.out
    obtain ⟨Cv, HVO⟩ : ∃ x, Hid (voF C = x) := ⟨_, hide rfl⟩
    have HIXK := hide (show Cv.key = IX by rw [← HIX.out, ← HVO.out]; rfl)
    have HIXL := hide (show IX.length = 16 by rw [← HIX.out]; exact (voF_wf HWF.out).keyL)
    have HVE := hide hlw.1
    rw [HVO.out] at hlw hvwf
    have HVF := hide hlw.2.2.2.2.2
    have HVR := hide hlw.2.2.2.1
    have HVW := hide hlw.2.2.2.2.1
    have hvs := vo_self hlw.2.1 hlw.2.2.1 hlw.2.2.2.1
    have HVI := hide (show ixF Cv = IX by unfold ixF; rw [hvs.1]; exact HIXK.out)
    have HVE2 := hide hvs.2
    have hvr := ro_not hlw.2.2.2.1
    have HVRO := hide hvr.1
    have HVRE := hide hvr.2
    have HWV := hide hvwf
    have hvl : Cv.lit = [] := by rw [← HVO.out]; exact voF_lit
    have hvln : Cv.lit.length ≤ 1000000 := by rw [hvl]; simp
    have HVL := hide hvl
    obtain ⟨NN, HNN⟩ : ∃ x, Hid (CapD.none_ = x) := ⟨_, hide rfl⟩
    have HN1 := hide (show NN.key.length = 16 by rw [← HNN.out]; rfl)
    have HN2 := hide (show NN.fp.length = 32 by rw [← HNN.out]; rfl)
    clear hlw hvs hvr hvl hvwf
    go_wp2_with (first
        | (refine wpList_cap_putAll _ _ rfl rfl rfl B0.out C lc EVc.out.symm HCK.out HCF.out LOc.out ?_; intro w3 hb3 hg3 hs3; have Bc := hide hb3; have hO3 := HO.out.kept hg3 (.inr (by rintro h; exact own_ne_blk HO.out B0.out.blk (by decide) h.symm)); have Lc := hide (show Bs w3 m0 lc C.lit from (by have := Own8.reads (w := w3) hO3; rw [hs3, hm0] at this; exact this)); replace HW := hide (HW.out.grown hg3 HW.out.size (by intro k hk; simp at hk; omega)); have hz3 : m0 ≤ w3.heap.size := (by omega); clear hb3 hg3 hs3 B0 HO)
        | (refine wpList_cap_all _ rfl rfl rfl Bc.out ?_; rw [EVc.out]))
    have hcall := Index_any C lc w3 HWF.out (Lc.out.more (by omega)) hlitn ((HT.out.below HW.out (Nat.le_refl _)).more HW.out.size)
    rw [EVc.out, HIX.out, HVE.out] at hcall
    refine hcall.mono ?_
    clear hcall
    rintro e wc1 ⟨rfl, hb⟩
    have hz1 := hb.size
    replace Lc := hide (Lc.out.below hb (by have := Bc.out.lt; omega))
    replace Bc := hide (Bc.out.below hb Bc.out.lt)
    replace HW := hide (HW.out.trans (hb.mono HW.out.size))
    clear hb
    obtain ⟨gi, hgi⟩ : ∃ n, wc1.heap.size = n := ⟨_, rfl⟩
    have hwgi : w.heap.size ≤ gi := by have := HW.out.size; omega
    have hgcgi : gc < gi := by have := Bc.out.lt; omega
    go_wp2_with (first
        | (refine wpList_alloc_blk rfl 23 rfl _ zero_key ?_; intro wa1 hba hwa hsa; rw [hgi] at hba hwa hsa; try rw [hgi]; have Bi := hide hba; replace Lc := hide (Lc.out.below hwa (by omega)); replace Bc := hide (Bc.out.below hwa (by omega)); replace HW := hide (HW.out.trans (hwa.mono (by omega))); have hza1 : gi + 1 ≤ wa1.heap.size := (by omega); clear hba hwa hsa)
        | (refine wpList_store_blk rfl 23 _ _ rfl gi 0 (u8s IX) rfl (by exact rfl) _ _ Bi.out (by rw [u8s_len, u8s_len, HIXL.out]; simp) (by rw [u8s_len, HIXL.out]; exact size_key) (u8s_one _) ?_; intro ws1 hbs hgs hss; rw [lset_all _ _ (by rw [u8s_len, u8s_len, HIXL.out]; rfl)] at hbs; have hbt := (Below.refl gi _).grown hgs (by have := Bi.out.lt; omega) (by intro k hk; simp at hk; omega); replace Lc := hide (Lc.out.below hbt (by omega)); replace Bc := hide (Bc.out.grown hgs (by intro h; injection h with h; omega)); replace HW := hide (HW.out.grown hgs HW.out.size (by intro k hk; simp at hk; omega)); clear hbt; replace Bi := hide hbs; have hzs1 : gi + 1 ≤ ws1.heap.size := (by omega); clear hbs hgs hss)
        | (refine wpList_cap_int _ rfl 0 rfl rfl Bc.out _ rfl ?_)
        | (refine wpList_cap_all _ rfl rfl rfl Bc.out ?_; rw [EVc.out]))
    have hcall := VerifyOnly_any C lc _ HWF.out (Lc.out.more (by omega)) hlitn ((HT.out.below HW.out (Nat.le_refl _)).more HW.out.size)
    rw [EVc.out, HVO.out, HVE.out] at hcall
    refine hcall.mono ?_
    clear hcall
    rintro e wc2 ⟨lv, rfl, hl, hb⟩
    have hz2 := hb.size
    replace Lc := hide (Lc.out.below hb (by have := Bc.out.lt; omega))
    replace Bc := hide (Bc.out.below hb Bc.out.lt)
    replace Bi := hide (Bi.out.below hb Bi.out.lt)
    replace HW := hide (HW.out.trans (hb.mono HW.out.size))
    have Lv := hide hl
    have LOv := hide hl.one
    clear hl
    clear hb
    obtain ⟨Vv, EVv⟩ : ∃ x, Hid (capV Cv lv = x) := ⟨_, hide rfl⟩
    rw [EVv.out]
    obtain ⟨gv, hgv⟩ : ∃ n, wc2.heap.size = n := ⟨_, rfl⟩
    have hwgv : w.heap.size ≤ gv := by have := HW.out.size; omega
    have hgcgv : gc < gv := by have := Bc.out.lt; omega
    have hgigv : gi < gv := by have := Bi.out.lt; omega
    rw [hgv] at Lv
    go_wp2_with (first
        | go_skip
        | (refine wpList_cap_zero rfl rfl ?_; intro wa2 hba hwa hsa; rw [hgv] at hba hwa hsa; try rw [hgv]; have Bv := hide hba; replace Lc := hide (Lc.out.below hwa (by omega)); replace Lv := hide (Lv.out.below hwa (by omega)); replace Bc := hide (Bc.out.below hwa (by omega)); replace Bi := hide (Bi.out.below hwa (by omega)); replace HW := hide (HW.out.trans (hwa.mono (by omega))); have hza2 : gv + 1 ≤ wa2.heap.size := (by omega); clear hba hwa hsa)
        | (refine wpList_cap_putAll _ _ rfl rfl rfl Bv.out Cv lv EVv.out.symm HWV.out.keyL HWV.out.fpL LOv.out ?_; intro ws2 hbs hgs hss; have hbt := (Below.refl gv _).grown hgs (by have := Bv.out.lt; omega) (by intro k hk; simp at hk; omega); replace Lc := hide (Lc.out.below hbt (by omega)); replace Bc := hide (Bc.out.grown hgs (by intro h; injection h with h; omega)); replace Bi := hide (Bi.out.grown hgs (by intro h; injection h with h; omega)); replace HW := hide (HW.out.grown hgs HW.out.size (by intro k hk; simp at hk; omega)); replace Lv := hide (Lv.out.below hbt (by omega)); clear hbt; replace Bv := hide hbs; have hzs2 : gv + 1 ≤ ws2.heap.size := (by omega); clear hbs hgs hss)
        | (refine wpList_cap_all _ rfl rfl rfl Bv.out ?_; rw [EVv.out]))
    have hcall := read_any Cv lv ws2 (capV_of HWV.out.keyL HWV.out.fpL (Lv.out))
    rw [HVR.out, EVv.out] at hcall
    refine hcall.mono ?_
    clear hcall
    rintro e wc3 ⟨rfl, hb⟩
    have hz3 := hb.size
    replace Lc := hide (Lc.out.below hb (by have := Bc.out.lt; omega))
    replace Lv := hide (Lv.out.below hb (by have := Bv.out.lt; omega))
    replace Bc := hide (Bc.out.below hb Bc.out.lt)
    replace Bi := hide (Bi.out.below hb Bi.out.lt)
    replace Bv := hide (Bv.out.below hb Bv.out.lt)
    replace HW := hide (HW.out.trans (hb.mono HW.out.size))
    clear hb
    go_wp2_with (first
        | go_skip
        | (refine wpList_cap_all _ rfl rfl rfl Bv.out ?_; rw [EVv.out]))
    have hcall := write_any Cv lv wc3 (capV_of HWV.out.keyL HWV.out.fpL (Lv.out))
    rw [HVW.out, EVv.out] at hcall
    refine hcall.mono ?_
    clear hcall
    rintro e wc4 ⟨rfl, hb⟩
    have hz4 := hb.size
    replace Lc := hide (Lc.out.below hb (by have := Bc.out.lt; omega))
    replace Lv := hide (Lv.out.below hb (by have := Bv.out.lt; omega))
    replace Bc := hide (Bc.out.below hb Bc.out.lt)
    replace Bi := hide (Bi.out.below hb Bi.out.lt)
    replace Bv := hide (Bv.out.below hb Bv.out.lt)
    replace HW := hide (HW.out.trans (hb.mono HW.out.size))
    clear hb
    go_wp2_with (first
        | go_skip
        | (refine wpList_cap_key _ rfl rfl rfl Bv.out ?_; rw [HIXK.out])
        | (refine wpList_load_key rfl _ rfl rfl Bi.out HIXL.out ?_)
        | (refine wpList_neq_key _ _ _ rfl IX rfl rfl rfl HIXL.out ?_)
        | (refine wpList_cap_fp _ rfl rfl rfl Bv.out ?_; rw [HVF.out])
        | (refine wpList_cap_fp _ rfl rfl rfl Bc.out ?_)
        | (refine wpList_neq_hash _ _ _ rfl C.fp rfl rfl rfl HCF.out ?_)
        | (refine wpList_cap_all _ rfl rfl rfl Bv.out ?_; rw [EVv.out]))
    have hcall := Index_any Cv lv _ HWV.out (Lv.out.more (by omega)) hvln ((HT.out.below HW.out (Nat.le_refl _)).more HW.out.size)
    rw [EVv.out, HVI.out, HVE2.out] at hcall
    refine hcall.mono ?_
    clear hcall
    rintro e wc5 ⟨rfl, hb⟩
    have hz5 := hb.size
    replace Lc := hide (Lc.out.below hb (by have := Bc.out.lt; omega))
    replace Lv := hide (Lv.out.below hb (by have := Bv.out.lt; omega))
    replace Bc := hide (Bc.out.below hb Bc.out.lt)
    replace Bi := hide (Bi.out.below hb Bi.out.lt)
    replace Bv := hide (Bv.out.below hb Bv.out.lt)
    replace HW := hide (HW.out.trans (hb.mono HW.out.size))
    clear hb
    obtain ⟨gj, hgj⟩ : ∃ n, wc5.heap.size = n := ⟨_, rfl⟩
    have hwgj : w.heap.size ≤ gj := by have := HW.out.size; omega
    have hgcgj : gc < gj := by have := Bc.out.lt; omega
    have hgigj : gi < gj := by have := Bi.out.lt; omega
    have hgvgj : gv < gj := by have := Bv.out.lt; omega
    go_wp2_with (first
        | (refine wpList_alloc_blk rfl 23 rfl _ zero_key ?_; intro wa5 hba hwa hsa; rw [hgj] at hba hwa hsa; try rw [hgj]; have Bj := hide hba; replace Lc := hide (Lc.out.below hwa (by omega)); replace Lv := hide (Lv.out.below hwa (by omega)); replace Bc := hide (Bc.out.below hwa (by omega)); replace Bi := hide (Bi.out.below hwa (by omega)); replace Bv := hide (Bv.out.below hwa (by omega)); replace HW := hide (HW.out.trans (hwa.mono (by omega))); have hza5 : gj + 1 ≤ wa5.heap.size := (by omega); clear hba hwa hsa)
        | (refine wpList_store_blk rfl 23 _ _ rfl gj 0 (u8s IX) rfl (by exact rfl) _ _ Bj.out (by rw [u8s_len, u8s_len, HIXL.out]; simp) (by rw [u8s_len, HIXL.out]; exact size_key) (u8s_one _) ?_; intro ws5 hbs hgs hss; rw [lset_all _ _ (by rw [u8s_len, u8s_len, HIXL.out]; rfl)] at hbs; have hbt := (Below.refl gj _).grown hgs (by have := Bj.out.lt; omega) (by intro k hk; simp at hk; omega); replace Lc := hide (Lc.out.below hbt (by omega)); replace Lv := hide (Lv.out.below hbt (by omega)); replace Bc := hide (Bc.out.grown hgs (by intro h; injection h with h; omega)); replace Bi := hide (Bi.out.grown hgs (by intro h; injection h with h; omega)); replace Bv := hide (Bv.out.grown hgs (by intro h; injection h with h; omega)); replace HW := hide (HW.out.grown hgs HW.out.size (by intro k hk; simp at hk; omega)); clear hbt; replace Bj := hide hbs; have hzs5 : gj + 1 ≤ ws5.heap.size := (by omega); clear hbs hgs hss)
        | (refine wpList_cap_all _ rfl rfl rfl Bv.out ?_; rw [EVv.out]))
    have hcall := ReadOnly_any Cv lv _ HWV.out (Lv.out.more (by omega)) hvln ((HT.out.below HW.out (Nat.le_refl _)).more HW.out.size)
    rw [EVv.out, HVRO.out, HVRE.out, HNN.out] at hcall
    refine hcall.mono ?_
    clear hcall
    rintro e wc6 ⟨ln, rfl, hl, hb⟩
    have hz6 := hb.size
    replace Lc := hide (Lc.out.below hb (by have := Bc.out.lt; omega))
    replace Lv := hide (Lv.out.below hb (by have := Bv.out.lt; omega))
    replace Bc := hide (Bc.out.below hb Bc.out.lt)
    replace Bi := hide (Bi.out.below hb Bi.out.lt)
    replace Bv := hide (Bv.out.below hb Bv.out.lt)
    replace Bj := hide (Bj.out.below hb Bj.out.lt)
    replace HW := hide (HW.out.trans (hb.mono HW.out.size))
    have Ln := hide hl
    have LOn := hide hl.one
    clear hl
    clear hb
    obtain ⟨Vn, EVn⟩ : ∃ x, Hid (capV NN ln = x) := ⟨_, hide rfl⟩
    rw [EVn.out]
    obtain ⟨gn, hgn⟩ : ∃ n, wc6.heap.size = n := ⟨_, rfl⟩
    have hwgn : w.heap.size ≤ gn := by have := HW.out.size; omega
    have hgcgn : gc < gn := by have := Bc.out.lt; omega
    have hgign : gi < gn := by have := Bi.out.lt; omega
    have hgvgn : gv < gn := by have := Bv.out.lt; omega
    have hgjgn : gj < gn := by have := Bj.out.lt; omega
    rw [hgn] at Ln
    go_wp2_with (first
        | go_skip
        | (refine wpList_cap_zero rfl rfl ?_; intro wa6 hba hwa hsa; rw [hgn] at hba hwa hsa; try rw [hgn]; have Bn := hide hba; replace Lc := hide (Lc.out.below hwa (by omega)); replace Lv := hide (Lv.out.below hwa (by omega)); replace Ln := hide (Ln.out.below hwa (by omega)); replace Bc := hide (Bc.out.below hwa (by omega)); replace Bi := hide (Bi.out.below hwa (by omega)); replace Bv := hide (Bv.out.below hwa (by omega)); replace Bj := hide (Bj.out.below hwa (by omega)); replace HW := hide (HW.out.trans (hwa.mono (by omega))); have hza6 : gn + 1 ≤ wa6.heap.size := (by omega); clear hba hwa hsa)
        | (refine wpList_cap_putAll _ _ rfl rfl rfl Bn.out NN ln EVn.out.symm HN1.out HN2.out LOn.out ?_; intro ws6 hbs hgs hss; have hbt := (Below.refl gn _).grown hgs (by have := Bn.out.lt; omega) (by intro k hk; simp at hk; omega); replace Lc := hide (Lc.out.below hbt (by omega)); replace Lv := hide (Lv.out.below hbt (by omega)); replace Bc := hide (Bc.out.grown hgs (by intro h; injection h with h; omega)); replace Bi := hide (Bi.out.grown hgs (by intro h; injection h with h; omega)); replace Bv := hide (Bv.out.grown hgs (by intro h; injection h with h; omega)); replace Bj := hide (Bj.out.grown hgs (by intro h; injection h with h; omega)); replace HW := hide (HW.out.grown hgs HW.out.size (by intro k hk; simp at hk; omega)); replace Ln := hide (Ln.out.below hbt (by omega)); clear hbt; replace Bn := hide hbs; have hzs6 : gn + 1 ≤ ws6.heap.size := (by omega); clear hbs hgs hss)
        | (refine wpList_load_key rfl _ rfl rfl Bj.out HIXL.out ?_)
        | (refine wpList_load_key rfl _ rfl rfl Bi.out HIXL.out ?_)
        | (refine wpList_neq_key _ _ _ rfl IX rfl rfl rfl HIXL.out ?_)
        | (refine wpList_cap_all _ rfl rfl rfl Bc.out ?_; rw [EVc.out]))
    by_cases hr : readF C = true
    · obtain ⟨r1, r2, r3, r4, r5, r6, r7, r8, r9⟩ := ro_read hr h3
      have rv := vo_ro hr h3
      have HR := hide hr
      have hrwf := roF_wf HWF.out
      obtain ⟨Cr, HRO⟩ : ∃ x, Hid (roF C = x) := ⟨_, hide rfl⟩
      have HRE := hide r1
      rw [HRO.out] at r2 r3 r4 r5 r6 r7 r8 rv hrwf
      rw [HVO.out] at rv
      have HRI := hide (show ixF Cr = IX by unfold ixF; rw [rv.1]; exact HIXK.out)
      have HRV := hide rv.1
      have HRVE := hide rv.2
      have HRR := hide r4
      have HRW := hide r5
      have HRRO := hide r6
      have HRRE := hide r7
      have HREN := hide r8
      have HWR := hide hrwf
      have hrln : Cr.lit.length ≤ 1000000 := by have := roF_lit_le (c := C); rw [HRO.out] at this; omega
      obtain ⟨EK, HEK⟩ : ∃ x, Hid (enF Cr 0 = x) := ⟨_, hide rfl⟩
      have HEKL := hide (show EK.length = 16 by rw [← HEK.out]; unfold enF; rw [if_neg (by rw [HRW.out]; simp)]; rfl)
      have HSR := hide (sameF_self Cr)
      have HSV := hide (sameF_self Cv)
      clear r1 r2 r3 r4 r5 r6 r7 r8 r9 rv hrwf hr hva h3
      have hcall := read_any C lc ws6 (capV_of HCK.out HCF.out (Lc.out))
      rw [HR.out, EVc.out] at hcall
      refine hcall.mono ?_
      clear hcall
      rintro e wc7 ⟨rfl, hb⟩
      have hz7 := hb.size
      replace Lc := hide (Lc.out.below hb (by have := Bc.out.lt; omega))
      replace Lv := hide (Lv.out.below hb (by have := Bv.out.lt; omega))
      replace Ln := hide (Ln.out.below hb (by have := Bn.out.lt; omega))
      replace Bc := hide (Bc.out.below hb Bc.out.lt)
      replace Bi := hide (Bi.out.below hb Bi.out.lt)
      replace Bv := hide (Bv.out.below hb Bv.out.lt)
      replace Bj := hide (Bj.out.below hb Bj.out.lt)
      replace Bn := hide (Bn.out.below hb Bn.out.lt)
      replace HW := hide (HW.out.trans (hb.mono HW.out.size))
      clear hb
      go_wp2_with (first
          | (refine wpList_cap_all _ rfl rfl rfl Bc.out ?_; rw [EVc.out]))
      have hcall := ReadOnly_any C lc _ HWF.out (Lc.out.more (by omega)) hlitn ((HT.out.below HW.out (Nat.le_refl _)).more HW.out.size)
      rw [EVc.out, HRO.out, HRE.out] at hcall
      refine hcall.mono ?_
      clear hcall
      rintro e wc8 ⟨lr, rfl, hl, hb⟩
      have hz8 := hb.size
      replace Lc := hide (Lc.out.below hb (by have := Bc.out.lt; omega))
      replace Lv := hide (Lv.out.below hb (by have := Bv.out.lt; omega))
      replace Ln := hide (Ln.out.below hb (by have := Bn.out.lt; omega))
      replace Bc := hide (Bc.out.below hb Bc.out.lt)
      replace Bi := hide (Bi.out.below hb Bi.out.lt)
      replace Bv := hide (Bv.out.below hb Bv.out.lt)
      replace Bj := hide (Bj.out.below hb Bj.out.lt)
      replace Bn := hide (Bn.out.below hb Bn.out.lt)
      replace HW := hide (HW.out.trans (hb.mono HW.out.size))
      have Lr := hide hl
      have LOr := hide hl.one
      clear hl
      clear hb
      obtain ⟨Vr, EVr⟩ : ∃ x, Hid (capV Cr lr = x) := ⟨_, hide rfl⟩
      rw [EVr.out]
      obtain ⟨gr, hgr⟩ : ∃ n, wc8.heap.size = n := ⟨_, rfl⟩
      have hwgr : w.heap.size ≤ gr := by have := HW.out.size; omega
      have hgcgr : gc < gr := by have := Bc.out.lt; omega
      have hgigr : gi < gr := by have := Bi.out.lt; omega
      have hgvgr : gv < gr := by have := Bv.out.lt; omega
      have hgjgr : gj < gr := by have := Bj.out.lt; omega
      have hgngr : gn < gr := by have := Bn.out.lt; omega
      rw [hgr] at Lr
      go_wp2_with (first
          | (refine wpList_cap_zero rfl rfl ?_; intro wa8 hba hwa hsa; rw [hgr] at hba hwa hsa; try rw [hgr]; have Br := hide hba; replace Lc := hide (Lc.out.below hwa (by omega)); replace Lv := hide (Lv.out.below hwa (by omega)); replace Ln := hide (Ln.out.below hwa (by omega)); replace Lr := hide (Lr.out.below hwa (by omega)); replace Bc := hide (Bc.out.below hwa (by omega)); replace Bi := hide (Bi.out.below hwa (by omega)); replace Bv := hide (Bv.out.below hwa (by omega)); replace Bj := hide (Bj.out.below hwa (by omega)); replace Bn := hide (Bn.out.below hwa (by omega)); replace HW := hide (HW.out.trans (hwa.mono (by omega))); have hza8 : gr + 1 ≤ wa8.heap.size := (by omega); clear hba hwa hsa)
          | (refine wpList_cap_putAll _ _ rfl rfl rfl Br.out Cr lr EVr.out.symm HWR.out.keyL HWR.out.fpL LOr.out ?_; intro ws8 hbs hgs hss; have hbt := (Below.refl gr _).grown hgs (by have := Br.out.lt; omega) (by intro k hk; simp at hk; omega); replace Lc := hide (Lc.out.below hbt (by omega)); replace Lv := hide (Lv.out.below hbt (by omega)); replace Ln := hide (Ln.out.below hbt (by omega)); replace Bc := hide (Bc.out.grown hgs (by intro h; injection h with h; omega)); replace Bi := hide (Bi.out.grown hgs (by intro h; injection h with h; omega)); replace Bv := hide (Bv.out.grown hgs (by intro h; injection h with h; omega)); replace Bj := hide (Bj.out.grown hgs (by intro h; injection h with h; omega)); replace Bn := hide (Bn.out.grown hgs (by intro h; injection h with h; omega)); replace HW := hide (HW.out.grown hgs HW.out.size (by intro k hk; simp at hk; omega)); replace Lr := hide (Lr.out.below hbt (by omega)); clear hbt; replace Br := hide hbs; have hzs8 : gr + 1 ≤ ws8.heap.size := (by omega); clear hbs hgs hss)
          | (refine wpList_cap_all _ rfl rfl rfl Br.out ?_; rw [EVr.out]))
      have hcall := Index_any Cr lr _ HWR.out (Lr.out.more (by omega)) hrln ((HT.out.below HW.out (Nat.le_refl _)).more HW.out.size)
      rw [EVr.out, HRI.out, HRVE.out] at hcall
      refine hcall.mono ?_
      clear hcall
      rintro e wc9 ⟨rfl, hb⟩
      have hz9 := hb.size
      replace Lc := hide (Lc.out.below hb (by have := Bc.out.lt; omega))
      replace Lv := hide (Lv.out.below hb (by have := Bv.out.lt; omega))
      replace Ln := hide (Ln.out.below hb (by have := Bn.out.lt; omega))
      replace Lr := hide (Lr.out.below hb (by have := Br.out.lt; omega))
      replace Bc := hide (Bc.out.below hb Bc.out.lt)
      replace Bi := hide (Bi.out.below hb Bi.out.lt)
      replace Bv := hide (Bv.out.below hb Bv.out.lt)
      replace Bj := hide (Bj.out.below hb Bj.out.lt)
      replace Bn := hide (Bn.out.below hb Bn.out.lt)
      replace Br := hide (Br.out.below hb Br.out.lt)
      replace HW := hide (HW.out.trans (hb.mono HW.out.size))
      clear hb
      obtain ⟨gk, hgk⟩ : ∃ n, wc9.heap.size = n := ⟨_, rfl⟩
      have hwgk : w.heap.size ≤ gk := by have := HW.out.size; omega
      have hgcgk : gc < gk := by have := Bc.out.lt; omega
      have hgigk : gi < gk := by have := Bi.out.lt; omega
      have hgvgk : gv < gk := by have := Bv.out.lt; omega
      have hgjgk : gj < gk := by have := Bj.out.lt; omega
      have hgngk : gn < gk := by have := Bn.out.lt; omega
      have hgrgk : gr < gk := by have := Br.out.lt; omega
      go_wp2_with (first
          | (refine wpList_alloc_blk rfl 23 rfl _ zero_key ?_; intro wa9 hba hwa hsa; rw [hgk] at hba hwa hsa; try rw [hgk]; have Bk := hide hba; replace Lc := hide (Lc.out.below hwa (by omega)); replace Lv := hide (Lv.out.below hwa (by omega)); replace Ln := hide (Ln.out.below hwa (by omega)); replace Lr := hide (Lr.out.below hwa (by omega)); replace Bc := hide (Bc.out.below hwa (by omega)); replace Bi := hide (Bi.out.below hwa (by omega)); replace Bv := hide (Bv.out.below hwa (by omega)); replace Bj := hide (Bj.out.below hwa (by omega)); replace Bn := hide (Bn.out.below hwa (by omega)); replace Br := hide (Br.out.below hwa (by omega)); replace HW := hide (HW.out.trans (hwa.mono (by omega))); have hza9 : gk + 1 ≤ wa9.heap.size := (by omega); clear hba hwa hsa)
          | (refine wpList_store_blk rfl 23 _ _ rfl gk 0 (u8s IX) rfl (by exact rfl) _ _ Bk.out (by rw [u8s_len, u8s_len, HIXL.out]; simp) (by rw [u8s_len, HIXL.out]; exact size_key) (u8s_one _) ?_; intro ws9 hbs hgs hss; rw [lset_all _ _ (by rw [u8s_len, u8s_len, HIXL.out]; rfl)] at hbs; have hbt := (Below.refl gk _).grown hgs (by have := Bk.out.lt; omega) (by intro k hk; simp at hk; omega); replace Lc := hide (Lc.out.below hbt (by omega)); replace Lv := hide (Lv.out.below hbt (by omega)); replace Ln := hide (Ln.out.below hbt (by omega)); replace Lr := hide (Lr.out.below hbt (by omega)); replace Bc := hide (Bc.out.grown hgs (by intro h; injection h with h; omega)); replace Bi := hide (Bi.out.grown hgs (by intro h; injection h with h; omega)); replace Bv := hide (Bv.out.grown hgs (by intro h; injection h with h; omega)); replace Bj := hide (Bj.out.grown hgs (by intro h; injection h with h; omega)); replace Bn := hide (Bn.out.grown hgs (by intro h; injection h with h; omega)); replace Br := hide (Br.out.grown hgs (by intro h; injection h with h; omega)); replace HW := hide (HW.out.grown hgs HW.out.size (by intro k hk; simp at hk; omega)); clear hbt; replace Bk := hide hbs; have hzs9 : gk + 1 ≤ ws9.heap.size := (by omega); clear hbs hgs hss)
          | (refine wpList_cap_all _ rfl rfl rfl Br.out ?_; rw [EVr.out]))
      have hcall := ReadOnly_any Cr lr _ HWR.out (Lr.out.more (by omega)) hrln ((HT.out.below HW.out (Nat.le_refl _)).more HW.out.size)
      rw [EVr.out, HRRO.out, HRRE.out] at hcall
      refine hcall.mono ?_
      clear hcall
      rintro e wc10 ⟨ls, rfl, hl, hb⟩
      have hz10 := hb.size
      replace Lc := hide (Lc.out.below hb (by have := Bc.out.lt; omega))
      replace Lv := hide (Lv.out.below hb (by have := Bv.out.lt; omega))
      replace Ln := hide (Ln.out.below hb (by have := Bn.out.lt; omega))
      replace Lr := hide (Lr.out.below hb (by have := Br.out.lt; omega))
      replace Bc := hide (Bc.out.below hb Bc.out.lt)
      replace Bi := hide (Bi.out.below hb Bi.out.lt)
      replace Bv := hide (Bv.out.below hb Bv.out.lt)
      replace Bj := hide (Bj.out.below hb Bj.out.lt)
      replace Bn := hide (Bn.out.below hb Bn.out.lt)
      replace Br := hide (Br.out.below hb Br.out.lt)
      replace Bk := hide (Bk.out.below hb Bk.out.lt)
      replace HW := hide (HW.out.trans (hb.mono HW.out.size))
      have Ls := hide hl
      have LOs := hide hl.one
      clear hl
      clear hb
      obtain ⟨Vs, EVs⟩ : ∃ x, Hid (capV Cr ls = x) := ⟨_, hide rfl⟩
      rw [EVs.out]
      obtain ⟨gs, hgs⟩ : ∃ n, wc10.heap.size = n := ⟨_, rfl⟩
      have hwgs : w.heap.size ≤ gs := by have := HW.out.size; omega
      have hgcgs : gc < gs := by have := Bc.out.lt; omega
      have hgigs : gi < gs := by have := Bi.out.lt; omega
      have hgvgs : gv < gs := by have := Bv.out.lt; omega
      have hgjgs : gj < gs := by have := Bj.out.lt; omega
      have hgngs : gn < gs := by have := Bn.out.lt; omega
      have hgrgs : gr < gs := by have := Br.out.lt; omega
      have hgkgs : gk < gs := by have := Bk.out.lt; omega
      rw [hgs] at Ls
      go_wp2_with (first
          | (refine wpList_cap_zero rfl rfl ?_; intro wa10 hba hwa hsa; rw [hgs] at hba hwa hsa; try rw [hgs]; have Bs := hide hba; replace Lc := hide (Lc.out.below hwa (by omega)); replace Lv := hide (Lv.out.below hwa (by omega)); replace Ln := hide (Ln.out.below hwa (by omega)); replace Lr := hide (Lr.out.below hwa (by omega)); replace Ls := hide (Ls.out.below hwa (by omega)); replace Bc := hide (Bc.out.below hwa (by omega)); replace Bi := hide (Bi.out.below hwa (by omega)); replace Bv := hide (Bv.out.below hwa (by omega)); replace Bj := hide (Bj.out.below hwa (by omega)); replace Bn := hide (Bn.out.below hwa (by omega)); replace Br := hide (Br.out.below hwa (by omega)); replace Bk := hide (Bk.out.below hwa (by omega)); replace HW := hide (HW.out.trans (hwa.mono (by omega))); have hza10 : gs + 1 ≤ wa10.heap.size := (by omega); clear hba hwa hsa)
          | (refine wpList_cap_putAll _ _ rfl rfl rfl Bs.out Cr ls EVs.out.symm HWR.out.keyL HWR.out.fpL LOs.out ?_; intro ws10 hbs hgs hss; have hbt := (Below.refl gs _).grown hgs (by have := Bs.out.lt; omega) (by intro k hk; simp at hk; omega); replace Lc := hide (Lc.out.below hbt (by omega)); replace Lv := hide (Lv.out.below hbt (by omega)); replace Ln := hide (Ln.out.below hbt (by omega)); replace Lr := hide (Lr.out.below hbt (by omega)); replace Bc := hide (Bc.out.grown hgs (by intro h; injection h with h; omega)); replace Bi := hide (Bi.out.grown hgs (by intro h; injection h with h; omega)); replace Bv := hide (Bv.out.grown hgs (by intro h; injection h with h; omega)); replace Bj := hide (Bj.out.grown hgs (by intro h; injection h with h; omega)); replace Bn := hide (Bn.out.grown hgs (by intro h; injection h with h; omega)); replace Br := hide (Br.out.grown hgs (by intro h; injection h with h; omega)); replace Bk := hide (Bk.out.grown hgs (by intro h; injection h with h; omega)); replace HW := hide (HW.out.grown hgs HW.out.size (by intro k hk; simp at hk; omega)); replace Ls := hide (Ls.out.below hbt (by omega)); clear hbt; replace Bs := hide hbs; have hzs10 : gs + 1 ≤ ws10.heap.size := (by omega); clear hbs hgs hss)
          | (refine wpList_cap_all _ rfl rfl rfl Br.out ?_; rw [EVr.out]))
      have hcall := VerifyOnly_any Cr lr _ HWR.out (Lr.out.more (by omega)) hrln ((HT.out.below HW.out (Nat.le_refl _)).more HW.out.size)
      rw [EVr.out, HRV.out, HRVE.out] at hcall
      refine hcall.mono ?_
      clear hcall
      rintro e wc11 ⟨lx, rfl, hl, hb⟩
      have hz11 := hb.size
      replace Lc := hide (Lc.out.below hb (by have := Bc.out.lt; omega))
      replace Lv := hide (Lv.out.below hb (by have := Bv.out.lt; omega))
      replace Ln := hide (Ln.out.below hb (by have := Bn.out.lt; omega))
      replace Lr := hide (Lr.out.below hb (by have := Br.out.lt; omega))
      replace Ls := hide (Ls.out.below hb (by have := Bs.out.lt; omega))
      replace Bc := hide (Bc.out.below hb Bc.out.lt)
      replace Bi := hide (Bi.out.below hb Bi.out.lt)
      replace Bv := hide (Bv.out.below hb Bv.out.lt)
      replace Bj := hide (Bj.out.below hb Bj.out.lt)
      replace Bn := hide (Bn.out.below hb Bn.out.lt)
      replace Br := hide (Br.out.below hb Br.out.lt)
      replace Bk := hide (Bk.out.below hb Bk.out.lt)
      replace Bs := hide (Bs.out.below hb Bs.out.lt)
      replace HW := hide (HW.out.trans (hb.mono HW.out.size))
      have Lx := hide hl
      have LOx := hide hl.one
      clear hl
      clear hb
      obtain ⟨Vx, EVx⟩ : ∃ x, Hid (capV Cv lx = x) := ⟨_, hide rfl⟩
      rw [EVx.out]
      obtain ⟨gx, hgx⟩ : ∃ n, wc11.heap.size = n := ⟨_, rfl⟩
      have hwgx : w.heap.size ≤ gx := by have := HW.out.size; omega
      have hgcgx : gc < gx := by have := Bc.out.lt; omega
      have hgigx : gi < gx := by have := Bi.out.lt; omega
      have hgvgx : gv < gx := by have := Bv.out.lt; omega
      have hgjgx : gj < gx := by have := Bj.out.lt; omega
      have hgngx : gn < gx := by have := Bn.out.lt; omega
      have hgrgx : gr < gx := by have := Br.out.lt; omega
      have hgkgx : gk < gx := by have := Bk.out.lt; omega
      have hgsgx : gs < gx := by have := Bs.out.lt; omega
      rw [hgx] at Lx
      go_wp2_with (first
          | (refine wpList_cap_zero rfl rfl ?_; intro wa11 hba hwa hsa; rw [hgx] at hba hwa hsa; try rw [hgx]; have Bx := hide hba; replace Lc := hide (Lc.out.below hwa (by omega)); replace Lv := hide (Lv.out.below hwa (by omega)); replace Ln := hide (Ln.out.below hwa (by omega)); replace Lr := hide (Lr.out.below hwa (by omega)); replace Ls := hide (Ls.out.below hwa (by omega)); replace Lx := hide (Lx.out.below hwa (by omega)); replace Bc := hide (Bc.out.below hwa (by omega)); replace Bi := hide (Bi.out.below hwa (by omega)); replace Bv := hide (Bv.out.below hwa (by omega)); replace Bj := hide (Bj.out.below hwa (by omega)); replace Bn := hide (Bn.out.below hwa (by omega)); replace Br := hide (Br.out.below hwa (by omega)); replace Bk := hide (Bk.out.below hwa (by omega)); replace Bs := hide (Bs.out.below hwa (by omega)); replace HW := hide (HW.out.trans (hwa.mono (by omega))); have hza11 : gx + 1 ≤ wa11.heap.size := (by omega); clear hba hwa hsa)
          | (refine wpList_cap_putAll _ _ rfl rfl rfl Bx.out Cv lx EVx.out.symm HWV.out.keyL HWV.out.fpL LOx.out ?_; intro ws11 hbs hgs hss; have hbt := (Below.refl gx _).grown hgs (by have := Bx.out.lt; omega) (by intro k hk; simp at hk; omega); replace Lc := hide (Lc.out.below hbt (by omega)); replace Lv := hide (Lv.out.below hbt (by omega)); replace Ln := hide (Ln.out.below hbt (by omega)); replace Lr := hide (Lr.out.below hbt (by omega)); replace Ls := hide (Ls.out.below hbt (by omega)); replace Bc := hide (Bc.out.grown hgs (by intro h; injection h with h; omega)); replace Bi := hide (Bi.out.grown hgs (by intro h; injection h with h; omega)); replace Bv := hide (Bv.out.grown hgs (by intro h; injection h with h; omega)); replace Bj := hide (Bj.out.grown hgs (by intro h; injection h with h; omega)); replace Bn := hide (Bn.out.grown hgs (by intro h; injection h with h; omega)); replace Br := hide (Br.out.grown hgs (by intro h; injection h with h; omega)); replace Bk := hide (Bk.out.grown hgs (by intro h; injection h with h; omega)); replace Bs := hide (Bs.out.grown hgs (by intro h; injection h with h; omega)); replace HW := hide (HW.out.grown hgs HW.out.size (by intro k hk; simp at hk; omega)); replace Lx := hide (Lx.out.below hbt (by omega)); clear hbt; replace Bx := hide hbs; have hzs11 : gx + 1 ≤ ws11.heap.size := (by omega); clear hbs hgs hss)
          | (refine wpList_cap_all _ rfl rfl rfl Br.out ?_; rw [EVr.out]))
      have hcall := Enabler_any Cr lr 0 _ HWR.out (Lr.out.more (by omega)) hrln ((HT.out.below HW.out (Nat.le_refl _)).more HW.out.size) (by omega)
      rw [EVr.out, HEK.out, HREN.out] at hcall
      refine hcall.mono ?_
      clear hcall
      rintro e wc12 ⟨rfl, hb⟩
      have hz12 := hb.size
      replace Lc := hide (Lc.out.below hb (by have := Bc.out.lt; omega))
      replace Lv := hide (Lv.out.below hb (by have := Bv.out.lt; omega))
      replace Ln := hide (Ln.out.below hb (by have := Bn.out.lt; omega))
      replace Lr := hide (Lr.out.below hb (by have := Br.out.lt; omega))
      replace Ls := hide (Ls.out.below hb (by have := Bs.out.lt; omega))
      replace Lx := hide (Lx.out.below hb (by have := Bx.out.lt; omega))
      replace Bc := hide (Bc.out.below hb Bc.out.lt)
      replace Bi := hide (Bi.out.below hb Bi.out.lt)
      replace Bv := hide (Bv.out.below hb Bv.out.lt)
      replace Bj := hide (Bj.out.below hb Bj.out.lt)
      replace Bn := hide (Bn.out.below hb Bn.out.lt)
      replace Br := hide (Br.out.below hb Br.out.lt)
      replace Bk := hide (Bk.out.below hb Bk.out.lt)
      replace Bs := hide (Bs.out.below hb Bs.out.lt)
      replace Bx := hide (Bx.out.below hb Bx.out.lt)
      replace HW := hide (HW.out.trans (hb.mono HW.out.size))
      clear hb
      obtain ⟨ge, hge⟩ : ∃ n, wc12.heap.size = n := ⟨_, rfl⟩
      have hwge : w.heap.size ≤ ge := by have := HW.out.size; omega
      have hgcge : gc < ge := by have := Bc.out.lt; omega
      have hgige : gi < ge := by have := Bi.out.lt; omega
      have hgvge : gv < ge := by have := Bv.out.lt; omega
      have hgjge : gj < ge := by have := Bj.out.lt; omega
      have hgnge : gn < ge := by have := Bn.out.lt; omega
      have hgrge : gr < ge := by have := Br.out.lt; omega
      have hgkge : gk < ge := by have := Bk.out.lt; omega
      have hgsge : gs < ge := by have := Bs.out.lt; omega
      have hgxge : gx < ge := by have := Bx.out.lt; omega
      go_wp2_with (first
          | go_skip
          | (refine wpList_alloc_blk rfl 23 rfl _ zero_key ?_; intro wa12 hba hwa hsa; rw [hge] at hba hwa hsa; try rw [hge]; have Be := hide hba; replace Lc := hide (Lc.out.below hwa (by omega)); replace Lv := hide (Lv.out.below hwa (by omega)); replace Ln := hide (Ln.out.below hwa (by omega)); replace Lr := hide (Lr.out.below hwa (by omega)); replace Ls := hide (Ls.out.below hwa (by omega)); replace Lx := hide (Lx.out.below hwa (by omega)); replace Bc := hide (Bc.out.below hwa (by omega)); replace Bi := hide (Bi.out.below hwa (by omega)); replace Bv := hide (Bv.out.below hwa (by omega)); replace Bj := hide (Bj.out.below hwa (by omega)); replace Bn := hide (Bn.out.below hwa (by omega)); replace Br := hide (Br.out.below hwa (by omega)); replace Bk := hide (Bk.out.below hwa (by omega)); replace Bs := hide (Bs.out.below hwa (by omega)); replace Bx := hide (Bx.out.below hwa (by omega)); replace HW := hide (HW.out.trans (hwa.mono (by omega))); have hza12 : ge + 1 ≤ wa12.heap.size := (by omega); clear hba hwa hsa)
          | (refine wpList_store_blk rfl 23 _ _ rfl ge 0 (u8s EK) rfl (by exact rfl) _ _ Be.out (by rw [u8s_len, u8s_len, HEKL.out]; simp) (by rw [u8s_len, HEKL.out]; exact size_key) (u8s_one _) ?_; intro ws12 hbs hgs hss; rw [lset_all _ _ (by rw [u8s_len, u8s_len, HEKL.out]; rfl)] at hbs; have hbt := (Below.refl ge _).grown hgs (by have := Be.out.lt; omega) (by intro k hk; simp at hk; omega); replace Lc := hide (Lc.out.below hbt (by omega)); replace Lv := hide (Lv.out.below hbt (by omega)); replace Ln := hide (Ln.out.below hbt (by omega)); replace Lr := hide (Lr.out.below hbt (by omega)); replace Ls := hide (Ls.out.below hbt (by omega)); replace Lx := hide (Lx.out.below hbt (by omega)); replace Bc := hide (Bc.out.grown hgs (by intro h; injection h with h; omega)); replace Bi := hide (Bi.out.grown hgs (by intro h; injection h with h; omega)); replace Bv := hide (Bv.out.grown hgs (by intro h; injection h with h; omega)); replace Bj := hide (Bj.out.grown hgs (by intro h; injection h with h; omega)); replace Bn := hide (Bn.out.grown hgs (by intro h; injection h with h; omega)); replace Br := hide (Br.out.grown hgs (by intro h; injection h with h; omega)); replace Bk := hide (Bk.out.grown hgs (by intro h; injection h with h; omega)); replace Bs := hide (Bs.out.grown hgs (by intro h; injection h with h; omega)); replace Bx := hide (Bx.out.grown hgs (by intro h; injection h with h; omega)); replace HW := hide (HW.out.grown hgs HW.out.size (by intro k hk; simp at hk; omega)); clear hbt; replace Be := hide hbs; have hzs12 : ge + 1 ≤ ws12.heap.size := (by omega); clear hbs hgs hss)
          | (refine wpList_load_key rfl _ rfl rfl Bk.out HIXL.out ?_)
          | (refine wpList_load_key rfl _ rfl rfl Bi.out HIXL.out ?_)
          | (refine wpList_eql_key _ _ _ rfl IX IX rfl rfl rfl HIXL.out HIXL.out true (by simp) ?_)
          | (refine wpList_cap_all _ rfl rfl rfl Br.out ?_; rw [EVr.out]))
      have hcall := read_any Cr lr ws12 (capV_of HWR.out.keyL HWR.out.fpL (Lr.out))
      rw [HRR.out, EVr.out] at hcall
      refine hcall.mono ?_
      clear hcall
      rintro e wc13 ⟨rfl, hb⟩
      have hz13 := hb.size
      replace Lc := hide (Lc.out.below hb (by have := Bc.out.lt; omega))
      replace Lv := hide (Lv.out.below hb (by have := Bv.out.lt; omega))
      replace Ln := hide (Ln.out.below hb (by have := Bn.out.lt; omega))
      replace Lr := hide (Lr.out.below hb (by have := Br.out.lt; omega))
      replace Ls := hide (Ls.out.below hb (by have := Bs.out.lt; omega))
      replace Lx := hide (Lx.out.below hb (by have := Bx.out.lt; omega))
      replace Bc := hide (Bc.out.below hb Bc.out.lt)
      replace Bi := hide (Bi.out.below hb Bi.out.lt)
      replace Bv := hide (Bv.out.below hb Bv.out.lt)
      replace Bj := hide (Bj.out.below hb Bj.out.lt)
      replace Bn := hide (Bn.out.below hb Bn.out.lt)
      replace Br := hide (Br.out.below hb Br.out.lt)
      replace Bk := hide (Bk.out.below hb Bk.out.lt)
      replace Bs := hide (Bs.out.below hb Bs.out.lt)
      replace Bx := hide (Bx.out.below hb Bx.out.lt)
      replace Be := hide (Be.out.below hb Be.out.lt)
      replace HW := hide (HW.out.trans (hb.mono HW.out.size))
      clear hb
      go_wp2_with (first
          | go_skip
          | (refine wpList_cap_all _ rfl rfl rfl Br.out ?_; rw [EVr.out]))
      have hcall := write_any Cr lr wc13 (capV_of HWR.out.keyL HWR.out.fpL (Lr.out))
      rw [HRW.out, EVr.out] at hcall
      refine hcall.mono ?_
      clear hcall
      rintro e wc14 ⟨rfl, hb⟩
      have hz14 := hb.size
      replace Lc := hide (Lc.out.below hb (by have := Bc.out.lt; omega))
      replace Lv := hide (Lv.out.below hb (by have := Bv.out.lt; omega))
      replace Ln := hide (Ln.out.below hb (by have := Bn.out.lt; omega))
      replace Lr := hide (Lr.out.below hb (by have := Br.out.lt; omega))
      replace Ls := hide (Ls.out.below hb (by have := Bs.out.lt; omega))
      replace Lx := hide (Lx.out.below hb (by have := Bx.out.lt; omega))
      replace Bc := hide (Bc.out.below hb Bc.out.lt)
      replace Bi := hide (Bi.out.below hb Bi.out.lt)
      replace Bv := hide (Bv.out.below hb Bv.out.lt)
      replace Bj := hide (Bj.out.below hb Bj.out.lt)
      replace Bn := hide (Bn.out.below hb Bn.out.lt)
      replace Br := hide (Br.out.below hb Br.out.lt)
      replace Bk := hide (Bk.out.below hb Bk.out.lt)
      replace Bs := hide (Bs.out.below hb Bs.out.lt)
      replace Bx := hide (Bx.out.below hb Bx.out.lt)
      replace Be := hide (Be.out.below hb Be.out.lt)
      replace HW := hide (HW.out.trans (hb.mono HW.out.size))
      clear hb
      go_wp2_with (first
          | go_skip
          | (refine wpList_cap_all _ rfl rfl rfl Bs.out ?_; rw [EVs.out])
          | (refine wpList_cap_all _ rfl rfl rfl Br.out ?_; rw [EVr.out]))
      have hcall := same_caps Cr Cr ls lr _ HWR.out.keyL HWR.out.fpL HWR.out.keyL HWR.out.fpL (Ls.out.more (by omega)) (Lr.out.more (by omega)) HWR.out.litB HWR.out.litB
      rw [EVs.out, EVr.out, HSR.out] at hcall
      refine hcall.mono ?_
      clear hcall
      rintro e wc15 ⟨rfl, hb⟩
      have hz15 := hb.size
      replace Lc := hide (Lc.out.below hb (by have := Bc.out.lt; omega))
      replace Lv := hide (Lv.out.below hb (by have := Bv.out.lt; omega))
      replace Ln := hide (Ln.out.below hb (by have := Bn.out.lt; omega))
      replace Lr := hide (Lr.out.below hb (by have := Br.out.lt; omega))
      replace Ls := hide (Ls.out.below hb (by have := Bs.out.lt; omega))
      replace Lx := hide (Lx.out.below hb (by have := Bx.out.lt; omega))
      replace Bc := hide (Bc.out.below hb Bc.out.lt)
      replace Bi := hide (Bi.out.below hb Bi.out.lt)
      replace Bv := hide (Bv.out.below hb Bv.out.lt)
      replace Bj := hide (Bj.out.below hb Bj.out.lt)
      replace Bn := hide (Bn.out.below hb Bn.out.lt)
      replace Br := hide (Br.out.below hb Br.out.lt)
      replace Bk := hide (Bk.out.below hb Bk.out.lt)
      replace Bs := hide (Bs.out.below hb Bs.out.lt)
      replace Bx := hide (Bx.out.below hb Bx.out.lt)
      replace Be := hide (Be.out.below hb Be.out.lt)
      replace HW := hide (HW.out.trans (hb.mono HW.out.size))
      clear hb
      go_wp2_with (first
          | go_skip
          | (refine wpList_cap_all _ rfl rfl rfl Bx.out ?_; rw [EVx.out])
          | (refine wpList_cap_all _ rfl rfl rfl Bv.out ?_; rw [EVv.out]))
      have hcall := same_caps Cv Cv lx lv _ HWV.out.keyL HWV.out.fpL HWV.out.keyL HWV.out.fpL (Lx.out.more (by omega)) (Lv.out.more (by omega)) HWV.out.litB HWV.out.litB
      rw [EVx.out, EVv.out, HSV.out] at hcall
      refine hcall.mono ?_
      clear hcall
      rintro e wc16 ⟨rfl, hb⟩
      have hz16 := hb.size
      replace Lc := hide (Lc.out.below hb (by have := Bc.out.lt; omega))
      replace Lv := hide (Lv.out.below hb (by have := Bv.out.lt; omega))
      replace Ln := hide (Ln.out.below hb (by have := Bn.out.lt; omega))
      replace Lr := hide (Lr.out.below hb (by have := Br.out.lt; omega))
      replace Ls := hide (Ls.out.below hb (by have := Bs.out.lt; omega))
      replace Lx := hide (Lx.out.below hb (by have := Bx.out.lt; omega))
      replace Bc := hide (Bc.out.below hb Bc.out.lt)
      replace Bi := hide (Bi.out.below hb Bi.out.lt)
      replace Bv := hide (Bv.out.below hb Bv.out.lt)
      replace Bj := hide (Bj.out.below hb Bj.out.lt)
      replace Bn := hide (Bn.out.below hb Bn.out.lt)
      replace Br := hide (Br.out.below hb Br.out.lt)
      replace Bk := hide (Bk.out.below hb Bk.out.lt)
      replace Bs := hide (Bs.out.below hb Bs.out.lt)
      replace Bx := hide (Bx.out.below hb Bx.out.lt)
      replace Be := hide (Be.out.below hb Be.out.lt)
      replace HW := hide (HW.out.trans (hb.mono HW.out.size))
      clear hb
      go_wp2_with (first
          | go_skip
          | fail)
      have hcall := wakes13 _ ((HT.out.below HW.out (Nat.le_refl _)).more HW.out.size)
      refine hcall.mono ?_
      clear hcall
      rintro e wc17 ⟨rfl, hb⟩
      have hz17 := hb.size
      replace Lc := hide (Lc.out.below hb (by have := Bc.out.lt; omega))
      replace Lv := hide (Lv.out.below hb (by have := Bv.out.lt; omega))
      replace Ln := hide (Ln.out.below hb (by have := Bn.out.lt; omega))
      replace Lr := hide (Lr.out.below hb (by have := Br.out.lt; omega))
      replace Ls := hide (Ls.out.below hb (by have := Bs.out.lt; omega))
      replace Lx := hide (Lx.out.below hb (by have := Bx.out.lt; omega))
      replace Bc := hide (Bc.out.below hb Bc.out.lt)
      replace Bi := hide (Bi.out.below hb Bi.out.lt)
      replace Bv := hide (Bv.out.below hb Bv.out.lt)
      replace Bj := hide (Bj.out.below hb Bj.out.lt)
      replace Bn := hide (Bn.out.below hb Bn.out.lt)
      replace Br := hide (Br.out.below hb Br.out.lt)
      replace Bk := hide (Bk.out.below hb Bk.out.lt)
      replace Bs := hide (Bs.out.below hb Bs.out.lt)
      replace Bx := hide (Bx.out.below hb Bx.out.lt)
      replace Be := hide (Be.out.below hb Be.out.lt)
      replace HW := hide (HW.out.trans (hb.mono HW.out.size))
      clear hb
      go_wp2_with fail
      go_ret
      exact ⟨rfl, HW.out⟩
    · have HR := hide (show readF C = false by simpa using hr)
      have HSS := hide (show sameF Cv C = true by rw [sameF_iff, ← HVO.out]; exact (vo_self hva h3 HR.out).1)
      clear hr hva h3
      have hcall := read_any C lc ws6 (capV_of HCK.out HCF.out (Lc.out))
      rw [HR.out, EVc.out] at hcall
      refine hcall.mono ?_
      clear hcall
      rintro e wc7 ⟨rfl, hb⟩
      have hz7 := hb.size
      replace Lc := hide (Lc.out.below hb (by have := Bc.out.lt; omega))
      replace Lv := hide (Lv.out.below hb (by have := Bv.out.lt; omega))
      replace Ln := hide (Ln.out.below hb (by have := Bn.out.lt; omega))
      replace Bc := hide (Bc.out.below hb Bc.out.lt)
      replace Bi := hide (Bi.out.below hb Bi.out.lt)
      replace Bv := hide (Bv.out.below hb Bv.out.lt)
      replace Bj := hide (Bj.out.below hb Bj.out.lt)
      replace Bn := hide (Bn.out.below hb Bn.out.lt)
      replace HW := hide (HW.out.trans (hb.mono HW.out.size))
      clear hb
      go_wp2_with (first
          | go_skip
          | (refine wpList_cap_all _ rfl rfl rfl Bv.out ?_; rw [EVv.out])
          | (refine wpList_cap_all _ rfl rfl rfl Bc.out ?_; rw [EVc.out]))
      have hcall := same_caps Cv C lv lc _ HWV.out.keyL HWV.out.fpL HCK.out HCF.out (Lv.out.more (by omega)) (Lc.out.more (by omega)) HWV.out.litB HWF.out.litB
      rw [EVv.out, EVc.out, HSS.out] at hcall
      refine hcall.mono ?_
      clear hcall
      rintro e wc8 ⟨rfl, hb⟩
      have hz8 := hb.size
      replace Lc := hide (Lc.out.below hb (by have := Bc.out.lt; omega))
      replace Lv := hide (Lv.out.below hb (by have := Bv.out.lt; omega))
      replace Ln := hide (Ln.out.below hb (by have := Bn.out.lt; omega))
      replace Bc := hide (Bc.out.below hb Bc.out.lt)
      replace Bi := hide (Bi.out.below hb Bi.out.lt)
      replace Bv := hide (Bv.out.below hb Bv.out.lt)
      replace Bj := hide (Bj.out.below hb Bj.out.lt)
      replace Bn := hide (Bn.out.below hb Bn.out.lt)
      replace HW := hide (HW.out.trans (hb.mono HW.out.size))
      clear hb
      go_wp2_with (first
          | go_skip
          | fail)
      have hcall := wakes13 _ ((HT.out.below HW.out (Nat.le_refl _)).more HW.out.size)
      refine hcall.mono ?_
      clear hcall
      rintro e wc9 ⟨rfl, hb⟩
      have hz9 := hb.size
      replace Lc := hide (Lc.out.below hb (by have := Bc.out.lt; omega))
      replace Lv := hide (Lv.out.below hb (by have := Bv.out.lt; omega))
      replace Ln := hide (Ln.out.below hb (by have := Bn.out.lt; omega))
      replace Bc := hide (Bc.out.below hb Bc.out.lt)
      replace Bi := hide (Bi.out.below hb Bi.out.lt)
      replace Bv := hide (Bv.out.below hb Bv.out.lt)
      replace Bj := hide (Bj.out.below hb Bj.out.lt)
      replace Bn := hide (Bn.out.below hb Bn.out.lt)
      replace HW := hide (HW.out.trans (hb.mono HW.out.size))
      clear hb
      go_wp2_with fail
      go_ret
      exact ⟨rfl, HW.out⟩
set_option maxRecDepth 100000 in
theorem lifted (os : Os) (started : os.Started) (H : Type) (enc : TypeId × Value → H) :
    ReturnsInHanded {} Tryd.checked os 10 .any (fun w args => (Rows.capsDownSpec.pre enc Tryd.prog Tryd.f10 [] false w args ∧ laidMetH Tryd.prog laidD w) ∧ sizedMet enc Tryd.prog Tryd.f10 (OpenSpec.ofChange Rows.capsDownSpec) false w args)
      (Rows.capsDownSpec.post enc Tryd.prog Tryd.f10 false true false false) := by
  refine returnsInHanded_of_change_and (C := Tryd.checked) (X := fun w _ => laidMetH Tryd.prog laidD w) (fun _ _ _ hh h => h.of_heap hh) own started (by kernel_rfl) Tryd.func10
    (ChangeSpec.witness_shaped (enc := enc) (C := Tryd.checked) (os := os) (X := fun w _ => laidMetH Tryd.prog laidD w) false (World.doorLaid Tryd.prog doorSteps os) #[capV CapD.none_ (.slice none 0 0)] 8 rfl (World.shaped_of_RefB (by kernel_rfl) (by kernel_rfl)) (by kernel_rfl) (by kernel_rfl) (by kernel_rfl) (door_met os _)) ?_
  intro W base args ds gs before hval0 hW _ _ hL _
  have hT := tab_of hL
  have hval : ∀ (j : Nat) t v, Tryd.f10.params[j]? = some t → args[j]? = some v → Value.okWide Tryd.prog W .any base t v := hval0
  have hW' := hW
  obtain ⟨p, q, hA0, hV, rfl, hfz, hnd⟩ := hW
  have hA : DataW.TrodAll enc Tryd.prog W 0 (fun _ => true) true Tryd.f10.params.toList args.toList ds p := hA0
  rw [Tryd.params10] at hA hval
  obtain ⟨v0, vs0, d0, ds0, p0, q0, hargs, rfl, rfl, h0, r0⟩ := trodAll_cons hA
  obtain ⟨rfl, rfl, rfl⟩ := trodAll_nil r0
  obtain rfl : args = #[v0] := by cases args; simp_all
  obtain ⟨rfl, rfl⟩ := trodVars_none hV
  have k0 := h0
  have lt0 : ∀ x ∈ p0, x.block < W.heap.size := by obtain ⟨m, hm⟩ := k0; exact DataW.trod_lt m _ _ _ hm
  obtain ⟨z0, l0, rfl, w0, b0⟩ := read_cap (hval 0 28 v0 rfl rfl) h0
  clear hA0 hval0
  refine (walk W hT z0 l0 w0 b0).mono fun e W' ⟨he, bel⟩ => ?_
  subst he
  exact ⟨_, rfl, _, _, _, [], _, [], hW', trodAll_mk1 (shut_bool Tryd.underlying4 _), (trodAll_cons_mk (Below.trod laidOut (by kernel_rfl) (of_decide_eq_true (by kernel_rfl)) k0 bel lt0) trodAll_mk0), rfl, bel.frame _, fun h => by cases h⟩

theorem over : Rows.capsDownRow.holds Tryd.pinned (OpenSpec.ofChange Rows.capsDownSpec) :=
  OpenClaim.holds_of_wide 10 Tryd.f10 rfl rfl rfl rfl rfl rfl rfl ⟨rfl, rfl, rfl, rfl, rfl⟩ rfl rfl rfl rfl rfl (by kernel_rfl) Tryd.func10 (by kernel_rfl)
    (of_decide_eq_true (by kernel_rfl)) (by unfold Func.isWrapper; rw [if_neg (of_decide_eq_false (by kernel_rfl))]; exact ⟨rfl, rfl⟩)
    (fun os started H enc _ => lifted os started H enc)

theorem proved : Rows.CapsDownCardSaid :=
  Claim7.holds_tied_plain_at .later [] Rows.capsDownCard.laidKinds true Rows.capsDownCard.stood.harness Rows.capsDownCard.stood.looks
    over (fun _ h => by cases h) (by kernel_rfl) (fun _ h => by cases h) capsDown_row_tie rfl ⟨rfl, rfl⟩ (by kernel_rfl) rfl
    (fun f fn hf hfn => by
      obtain rfl : f = 10 := Option.some.inj ((show Tryd.prog.funcNamed "aumbry/aumbrylaw13.CapsDown" = some 10 by kernel_rfl).symm.trans hf) |>.symm
      obtain rfl : fn = Tryd.f10 := (Option.some.inj (Tryd.func10.symm.trans hfn)).symm
      exact ⟨by kernel_rfl, fun j t ht => by
        have ht' : Tryd.f10.params[j]? = some t := ht
        rw [Tryd.params10] at ht'
        have hm : t ∈ [28] := by simpa using Array.mem_of_getElem? ht'
        have hall : ([28].all fun u => !Tryd.prog.wantsStandIn u) = true := by kernel_rfl
        exact (show Tryd.prog.wantsStandIn t = false by simpa using List.all_eq_true.1 hall t hm)⟩)
    (by kernel_rfl)
end Go.Proofs.YtgjepahhbecljaaDoor.LawCapsDown
