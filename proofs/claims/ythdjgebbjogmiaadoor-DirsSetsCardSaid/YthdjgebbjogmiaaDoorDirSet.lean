/- dirs.Set: with an entry. Condition: the table of powers of ten stands; literals of at most a million bytes. -/
import Derived.Test.YthdjgebbjogmiaaDoorJoin24
import Derived.Test.YthdjgebbjogmiaaDoorDirRight
set_option linter.unusedVariables false
set_option linter.unusedSimpArgs false
namespace Go.Proofs.YthdjgebbjogmiaaDoor
open Go Go.RowKit
set_option linter.unusedVariables false
set_option linter.unusedSimpArgs false
set_option maxRecDepth 100000
set_option maxHeartbeats 16000000
theorem dset_any (v : Value) (l : List EntD) (e : EntD) (lr lw : Value) (w : World) (hv : EntsB w w.heap.size v l) (he : EntOk w w.heap.size e lr lw) (hlit : ∀ e ∈ l, e.read.lit.length ≤ 1000000 ∧ e.write.lit.length ≤ 1000000) (hle : e.read.lit.length ≤ 1000000 ∧ e.write.lit.length ≤ 1000000) (hn : l.length ≤ 999000) (ht : Tab w w.heap.size) :
 Calls Tryd.prog 19 #[v, .agg (entC e lr lw).toArray] w fun r w' => ∃ v', r = .returned (.tuple #[v', .int .i64 (setE l e)]) ∧ OwnEnts w' w.heap.size w.heap.size v' (setF l e) ∧ Below w.heap.size w w' := by
 have HT := hide ht
 have HLIT := hide hlit
 have HLE := hide hle
 have HV := hide hv
 have HOE := hide he
 have HEB := hide he.nameB
 have HEZ := hide (show (Tryd.prog.info? 45).map (·.size) = some (entC e lr lw).length by rw [ent_len he]; exact size_ent)
 obtain ⟨A, c, rfl, h1, h2, h3⟩ := hv
 unfold maxLen at h2
 have HA := hide h3
 obtain ⟨n, HN⟩ : ∃ k, Hid (l.length = k) := ⟨_, hide rfl⟩
 rw [HN.out] at h1 hn HV ⊢
 obtain ⟨tot, HTOT⟩ : ∃ t, Hid (insG e false l = t) := ⟨_, hide rfl⟩
 have HTL := hide (show tot.length ≤ 999001 by rw [← HTOT.out]; have := insG_length e false l; have := HN.out; simp at *; omega)
 have HTM := hide (show ∀ x ∈ tot, x.read.lit.length ≤ 1000000 ∧ x.write.lit.length ≤ 1000000 from fun x hx => by
  rw [← HTOT.out] at hx
  rcases insG_mem_ e false l x hx with rfl | hx
  · exact HLE.out
  · exact HLIT.out x hx)
 obtain ⟨rl, HRL⟩ : ∃ b, Hid (rightB l = b) := ⟨_, hide rfl⟩
 obtain ⟨rt, HRT⟩ : ∃ b, Hid (rightB tot = b) := ⟨_, hide rfl⟩
 have HSF := hide (show setF l e = (if rl && rt then tot else []) ∧ setE l e = (if rl && rt then 0 else 1) by unfold setF setE setB; rw [HTOT.out, HRL.out, HRT.out]; exact ⟨rfl, rfl⟩)
 rw [HSF.out.1, HSF.out.2]
 have HE0 := hide (show (entC e lr lw)[0]? = some (.string (strOfNums e.name)) from ent_name)
 obtain ⟨g1, HG1⟩ : ∃ k, Hid (w.heap.size = k) := ⟨_, hide rfl⟩
 clear h3 hlit ht he hle
 go_enter Tryd.func19, Tryd.ntmps19
 go_wp2_with (first
  | (refine wpList_st_box _ rfl (entC e lr lw) rfl rfl ?_; intro w1 hb1 hw1 hs1; rw [HG1.out] at hb1 hs1; try rw [HG1.out]; have HE1 := hide hb1; have HW1 := hide hw1; have HS1 := hide hs1; clear hb1 hw1 hs1))
 obtain ⟨base, HBASE⟩ : ∃ k, Hid (w1.heap.size = k) := ⟨_, hide rfl⟩
 have hbw : w1.heap.size ≤ base ∧ base ≤ w1.heap.size := by have := HBASE.out; omega
 have hbase : w.heap.size ≤ base := by have := HBASE.out; have := HS1.out; have := HG1.out; omega
 have hg1b : g1 < base := by have := HBASE.out; have := HS1.out; omega
 have hwg1 : w.heap.size ≤ g1 ∧ g1 ≤ w.heap.size := by have := HG1.out; omega
 have HOE1 := hide (HOE.out.below HW1.out (Nat.le_refl _))
 have HBe := hide (Below.refl base w1)
 go_loopw [6, 7, 12] (fun v6 v7 v12 wr => ∃ (i : Nat) (out : List EntD) (put : Bool), v12 = .int .i64 (i : Int) ∧ v7 = .bool put ∧ i ≤ n ∧ OwnEnts wr base w.heap.size v6 out ∧ out ++ insG e put (l.drop i) = tot ∧ Below base w1 wr) (fun _ _ v12 _ => n - (intOf v12).toNat)
 case atStart => exact ⟨0, [], false, by go_num, rfl, by omega, OwnEnts.nil_ _ hbase, HTOT.out, HBe.out⟩
 case round =>
  obtain ⟨i, out, put, rfl, rfl, hin, how, heq, hb⟩ := hrel
  have HOWN := hide how
  have HEQ := hide heq
  have HB := hide hb
  have hzr : base ≤ wr.heap.size := Nat.le_trans hbw.2 hb.size
  have HOL := hide (show out.length ≤ 1000000 by have := HTL.out; rw [← HEQ.out, List.length_append] at this; omega)
  have HOL1 := hide (show out.length ≤ 999001 by have := HTL.out; rw [← HEQ.out, List.length_append] at this; omega)
  have H1 := hide (HE1.out.below hb hg1b)
  clear how heq hb HBe
  by_cases hlt : i < n
  · have hlt' : (i : Int) < (n : Int) := by omega
    obtain ⟨b, o, rfl, hbb, hca⟩ := HA.out (by rw [HN.out]; omega)
    obtain ⟨la, lb, hok, hrg⟩ := hca i (by rw [HN.out]; exact hlt)
    have HAT := hide (insG_at e l put i (by rw [HN.out]; exact hlt))
    have hli := HLIT.out _ (List.getElem_mem (show i < l.length by rw [HN.out]; exact hlt))
    obtain ⟨x, HX⟩ : ∃ x, Hid (l[i]'(by rw [HN.out]; exact hlt) = x) := ⟨_, hide rfl⟩
    rw [HX.out] at hok hrg HAT hli
    have HXOK := hide hok
    have HX1OK := hide (hok.below HW1.out (Nat.le_refl _))
    have HSZ := hide (show (Tryd.prog.info? 45).map (·.size) = some (entC x la lb).length by rw [ent_len hok]; exact size_ent)
    have HRG := hide (fun (j : Nat) (u : Value) (hu : (entC x la lb)[j]? = some u) => show _ = some u from ((HW1.out.trans (HB.out.mono hbase)).cell (p := ⟨b, o + i * 108 + j, none⟩) hbb).trans (hrg j u hu))
    have HXB := hide hok.nameB
    have HONES := hide (ent_ones hok)
    have HX0 := hide (show (entC x la lb)[0]? = some (.string (strOfNums x.name)) from ent_name)
    have HLI := hide hli
    clear hok hrg hca hli HX
    obtain ⟨g9, HG9⟩ : ∃ k, Hid (wr.heap.size = k) := ⟨_, hide rfl⟩
    have hg9 : base ≤ g9 ∧ g9 ≤ wr.heap.size := by have := HG9.out; omega
    have HOLT := hide (fun (k : Nat) (hk : u6.ownBlock = some k) => show k < g9 by have := HOWN.out.lt k hk; have := HG9.out; omega)
    obtain ⟨qg, HGE⟩ : ∃ q, Hid (ltL x.name e.name = !q) := ⟨!(ltL x.name e.name), hide (by rw [Bool.not_not])⟩
    obtain ⟨qn, HNQ⟩ : ∃ q, Hid (decide (x.name = e.name) = !q) := ⟨!(decide (x.name = e.name)), hide (by rw [Bool.not_not])⟩
    have HLT := HGE
    rcases put with _ | _
    case true =>
     rcases qn with _ | _
     case false =>
      have hnm : x.name = e.name := of_decide_eq_true HNQ.out
      have HNEXT := hide (show (out) ++ insG e true (l.drop (i + 1)) = tot by rw [← HEQ.out, HAT.out, HLT.out]; simp [hnm])
      clear hnm
      go_wp2_with (first
       | go_skip
       | (refine wpList_val_ rfl (exec_loadAll 45 _ rfl b (o + i * 108) rfl _ (entC x la lb) HRG.out Tryd.underlying45 rfl HSZ.out) ?_)
       | (refine wpList_alloc_blk rfl 45 rfl _ zero_ent ?_; intro w5 hb5 hw5 hs5; rw [HG9.out] at hb5; try rw [HG9.out]; have H9 := hide hb5; replace H1 := hide (H1.out.below hw5 H1.out.lt); replace HOWN := hide (HOWN.out.keptB hw5 hzr); replace HB := hide (HB.out.trans (hw5.mono hzr)); have hz5 : base ≤ w5.heap.size := Nat.le_trans hzr hw5.size; clear hb5 hw5)
       | (refine wpList_st_putAll _ _ _ rfl rfl rfl H9.out (entC x la lb) rfl (by rw [ent_len HXOK.out, ent_len (w := w) (B := 0) ⟨EntD.none_wf, Bs.nil_ _ _, Bs.nil_ _ _⟩]) HSZ.out HONES.out ?_; intro wq hb6 hg6 hs6; replace H1 := hide (H1.out.grown hg6 (by intro e; injection e; omega)); replace HOWN := hide (HOWN.out.past H9.out (by omega) (by kernel_rfl) (fun e => Nat.lt_irrefl _ (HOLT.out _ e)) hg6 hz5); replace H9 := hide hb6; replace HB := hide (HB.out.grown hg6 (by have := HB.out.size; omega) (by intro k hk; injection hk; omega)); clear hb6 hg6)
       | (refine wpList_st_get 9 _ rfl 0 rfl rfl H9.out _ Tryd.underlying9 rfl _ HX0.out ?_)
       | (refine wpList_st_all 45 _ rfl rfl rfl H9.out _ Tryd.underlying45 rfl HSZ.out ?_)
       | (refine wpList_val_ rfl (exec_geq_name _ _ _ rfl x.name e.name rfl rfl HXB.out HEB.out _ HGE.out) ?_)
       | (refine wpList_val_ rfl (exec_neq_name _ _ _ rfl x.name e.name rfl rfl HXB.out HEB.out _ HNQ.out) ?_)
       | (refine wpList_st_get 9 _ rfl 0 rfl rfl H1.out _ Tryd.underlying9 rfl _ HE0.out ?_)
       | (refine wpList_st_all 45 _ rfl rfl rfl H1.out _ Tryd.underlying45 rfl HEZ.out ?_))
      go_roundw
      case measure => simp [intOf]; omega
      case rel => exact ⟨i + 1, out, true, by go_num, rfl, by omega, HOWN.out, HNEXT.out, HB.out⟩
     case true =>
      have hnm : ¬ x.name = e.name := of_decide_eq_false HNQ.out
      have HNEXT := hide (show (out ++ [x]) ++ insG e true (l.drop (i + 1)) = tot by rw [← HEQ.out, HAT.out, HLT.out]; simp [hnm])
      clear hnm
      go_wp2_with (first
       | go_skip
       | (refine wpList_val_ rfl (exec_loadAll 45 _ rfl b (o + i * 108) rfl _ (entC x la lb) HRG.out Tryd.underlying45 rfl HSZ.out) ?_)
       | (refine wpList_alloc_blk rfl 45 rfl _ zero_ent ?_; intro w5 hb5 hw5 hs5; rw [HG9.out] at hb5; try rw [HG9.out]; have H9 := hide hb5; replace H1 := hide (H1.out.below hw5 H1.out.lt); replace HOWN := hide (HOWN.out.keptB hw5 hzr); replace HB := hide (HB.out.trans (hw5.mono hzr)); have hz5 : base ≤ w5.heap.size := Nat.le_trans hzr hw5.size; clear hb5 hw5)
       | (refine wpList_st_putAll _ _ _ rfl rfl rfl H9.out (entC x la lb) rfl (by rw [ent_len HXOK.out, ent_len (w := w) (B := 0) ⟨EntD.none_wf, Bs.nil_ _ _, Bs.nil_ _ _⟩]) HSZ.out HONES.out ?_; intro wq hb6 hg6 hs6; replace H1 := hide (H1.out.grown hg6 (by intro e; injection e; omega)); replace HOWN := hide (HOWN.out.past H9.out (by omega) (by kernel_rfl) (fun e => Nat.lt_irrefl _ (HOLT.out _ e)) hg6 hz5); replace H9 := hide hb6; replace HB := hide (HB.out.grown hg6 (by have := HB.out.size; omega) (by intro k hk; injection hk; omega)); clear hb6 hg6)
       | (refine wpList_st_get 9 _ rfl 0 rfl rfl H9.out _ Tryd.underlying9 rfl _ HX0.out ?_)
       | (refine wpList_st_all 45 _ rfl rfl rfl H9.out _ Tryd.underlying45 rfl HSZ.out ?_)
       | (refine wpList_val_ rfl (exec_geq_name _ _ _ rfl x.name e.name rfl rfl HXB.out HEB.out _ HGE.out) ?_)
       | (refine wpList_val_ rfl (exec_neq_name _ _ _ rfl x.name e.name rfl rfl HXB.out HEB.out _ HNQ.out) ?_)
       | (refine wpList_st_get 9 _ rfl 0 rfl rfl H1.out _ Tryd.underlying9 rfl _ HE0.out ?_)
       | (refine wpList_st_all 45 _ rfl rfl rfl H1.out _ Tryd.underlying45 rfl HEZ.out ?_))
      have hzkb : base ≤ _ := Nat.le_trans hbw.2 HB.out.size
      have HOKb := hide ((HX1OK.out.below HB.out hbase).more (Nat.le_trans hbase hzkb))
      refine (fresh_any x la lb _ HOKb.out HLI.out.1 HLI.out.2).mono ?_
      rintro _ wb ⟨lrb, lwb, rfl, hrb, hwb, hbb⟩
      have HYb := hide (show (EntL.mk x lrb lwb).Ok wb w.heap.size from ⟨HOKb.out.toWf, hrb.litB, hwb.litB⟩)
      replace HOWN := hide (HOWN.out.keptB hbb hzkb)
      replace H1 := hide (H1.out.below hbb H1.out.lt)
      replace HB := hide (HB.out.trans (hbb.mono hzkb))
      have hzlb : base ≤ _ := Nat.le_trans hbw.2 HB.out.size
      clear hrb hwb hbb
      go_wp2_with (first
       | go_skip
       | (refine wpList_lit_ent rfl _ rfl (EntL.mk x lrb lwb) HYb.out.wf rfl ?_)
       | (at_builtin; refine wpList_append_ent rfl _ _ rfl base w.heap.size u6 out rfl HOWN.out hzlb HOL.out (EntL.mk x lrb lwb) HYb.out rfl ?_; intro v6b w6b hob hpb hkb; have HOWNb := hide hob; replace H1 := hide (H1.out.below hpb hg1b); replace HB := hide (HB.out.trans hpb); clear hob hpb hkb))
      go_roundw
      case measure => simp [intOf]; omega
      case rel => exact ⟨i + 1, out ++ [x], true, by go_num, rfl, by omega, HOWNb.out, HNEXT.out, HB.out⟩
    rcases qg with _ | _
    case false =>
     rcases qn with _ | _
     case false =>
      have hnm : x.name = e.name := of_decide_eq_true HNQ.out
      have HNEXT := hide (show (out) ++ insG e false (l.drop (i + 1)) = tot by rw [← HEQ.out, HAT.out, HLT.out]; simp [hnm])
      clear hnm
      go_wp2_with (first
       | go_skip
       | (refine wpList_val_ rfl (exec_loadAll 45 _ rfl b (o + i * 108) rfl _ (entC x la lb) HRG.out Tryd.underlying45 rfl HSZ.out) ?_)
       | (refine wpList_alloc_blk rfl 45 rfl _ zero_ent ?_; intro w5 hb5 hw5 hs5; rw [HG9.out] at hb5; try rw [HG9.out]; have H9 := hide hb5; replace H1 := hide (H1.out.below hw5 H1.out.lt); replace HOWN := hide (HOWN.out.keptB hw5 hzr); replace HB := hide (HB.out.trans (hw5.mono hzr)); have hz5 : base ≤ w5.heap.size := Nat.le_trans hzr hw5.size; clear hb5 hw5)
       | (refine wpList_st_putAll _ _ _ rfl rfl rfl H9.out (entC x la lb) rfl (by rw [ent_len HXOK.out, ent_len (w := w) (B := 0) ⟨EntD.none_wf, Bs.nil_ _ _, Bs.nil_ _ _⟩]) HSZ.out HONES.out ?_; intro wq hb6 hg6 hs6; replace H1 := hide (H1.out.grown hg6 (by intro e; injection e; omega)); replace HOWN := hide (HOWN.out.past H9.out (by omega) (by kernel_rfl) (fun e => Nat.lt_irrefl _ (HOLT.out _ e)) hg6 hz5); replace H9 := hide hb6; replace HB := hide (HB.out.grown hg6 (by have := HB.out.size; omega) (by intro k hk; injection hk; omega)); clear hb6 hg6)
       | (refine wpList_st_get 9 _ rfl 0 rfl rfl H9.out _ Tryd.underlying9 rfl _ HX0.out ?_)
       | (refine wpList_st_all 45 _ rfl rfl rfl H9.out _ Tryd.underlying45 rfl HSZ.out ?_)
       | (refine wpList_val_ rfl (exec_geq_name _ _ _ rfl x.name e.name rfl rfl HXB.out HEB.out _ HGE.out) ?_)
       | (refine wpList_val_ rfl (exec_neq_name _ _ _ rfl x.name e.name rfl rfl HXB.out HEB.out _ HNQ.out) ?_)
       | (refine wpList_st_get 9 _ rfl 0 rfl rfl H1.out _ Tryd.underlying9 rfl _ HE0.out ?_)
       | (refine wpList_st_all 45 _ rfl rfl rfl H1.out _ Tryd.underlying45 rfl HEZ.out ?_))
      go_roundw
      case measure => simp [intOf]; omega
      case rel => exact ⟨i + 1, out, false, by go_num, rfl, by omega, HOWN.out, HNEXT.out, HB.out⟩
     case true =>
      have hnm : ¬ x.name = e.name := of_decide_eq_false HNQ.out
      have HNEXT := hide (show (out ++ [x]) ++ insG e false (l.drop (i + 1)) = tot by rw [← HEQ.out, HAT.out, HLT.out]; simp [hnm])
      clear hnm
      go_wp2_with (first
       | go_skip
       | (refine wpList_val_ rfl (exec_loadAll 45 _ rfl b (o + i * 108) rfl _ (entC x la lb) HRG.out Tryd.underlying45 rfl HSZ.out) ?_)
       | (refine wpList_alloc_blk rfl 45 rfl _ zero_ent ?_; intro w5 hb5 hw5 hs5; rw [HG9.out] at hb5; try rw [HG9.out]; have H9 := hide hb5; replace H1 := hide (H1.out.below hw5 H1.out.lt); replace HOWN := hide (HOWN.out.keptB hw5 hzr); replace HB := hide (HB.out.trans (hw5.mono hzr)); have hz5 : base ≤ w5.heap.size := Nat.le_trans hzr hw5.size; clear hb5 hw5)
       | (refine wpList_st_putAll _ _ _ rfl rfl rfl H9.out (entC x la lb) rfl (by rw [ent_len HXOK.out, ent_len (w := w) (B := 0) ⟨EntD.none_wf, Bs.nil_ _ _, Bs.nil_ _ _⟩]) HSZ.out HONES.out ?_; intro wq hb6 hg6 hs6; replace H1 := hide (H1.out.grown hg6 (by intro e; injection e; omega)); replace HOWN := hide (HOWN.out.past H9.out (by omega) (by kernel_rfl) (fun e => Nat.lt_irrefl _ (HOLT.out _ e)) hg6 hz5); replace H9 := hide hb6; replace HB := hide (HB.out.grown hg6 (by have := HB.out.size; omega) (by intro k hk; injection hk; omega)); clear hb6 hg6)
       | (refine wpList_st_get 9 _ rfl 0 rfl rfl H9.out _ Tryd.underlying9 rfl _ HX0.out ?_)
       | (refine wpList_st_all 45 _ rfl rfl rfl H9.out _ Tryd.underlying45 rfl HSZ.out ?_)
       | (refine wpList_val_ rfl (exec_geq_name _ _ _ rfl x.name e.name rfl rfl HXB.out HEB.out _ HGE.out) ?_)
       | (refine wpList_val_ rfl (exec_neq_name _ _ _ rfl x.name e.name rfl rfl HXB.out HEB.out _ HNQ.out) ?_)
       | (refine wpList_st_get 9 _ rfl 0 rfl rfl H1.out _ Tryd.underlying9 rfl _ HE0.out ?_)
       | (refine wpList_st_all 45 _ rfl rfl rfl H1.out _ Tryd.underlying45 rfl HEZ.out ?_))
      have hzkb : base ≤ _ := Nat.le_trans hbw.2 HB.out.size
      have HOKb := hide ((HX1OK.out.below HB.out hbase).more (Nat.le_trans hbase hzkb))
      refine (fresh_any x la lb _ HOKb.out HLI.out.1 HLI.out.2).mono ?_
      rintro _ wb ⟨lrb, lwb, rfl, hrb, hwb, hbb⟩
      have HYb := hide (show (EntL.mk x lrb lwb).Ok wb w.heap.size from ⟨HOKb.out.toWf, hrb.litB, hwb.litB⟩)
      replace HOWN := hide (HOWN.out.keptB hbb hzkb)
      replace H1 := hide (H1.out.below hbb H1.out.lt)
      replace HB := hide (HB.out.trans (hbb.mono hzkb))
      have hzlb : base ≤ _ := Nat.le_trans hbw.2 HB.out.size
      clear hrb hwb hbb
      go_wp2_with (first
       | go_skip
       | (refine wpList_lit_ent rfl _ rfl (EntL.mk x lrb lwb) HYb.out.wf rfl ?_)
       | (at_builtin; refine wpList_append_ent rfl _ _ rfl base w.heap.size u6 out rfl HOWN.out hzlb HOL.out (EntL.mk x lrb lwb) HYb.out rfl ?_; intro v6b w6b hob hpb hkb; have HOWNb := hide hob; replace H1 := hide (H1.out.below hpb hg1b); replace HB := hide (HB.out.trans hpb); clear hob hpb hkb))
      go_roundw
      case measure => simp [intOf]; omega
      case rel => exact ⟨i + 1, out ++ [x], false, by go_num, rfl, by omega, HOWNb.out, HNEXT.out, HB.out⟩
    rcases qn with _ | _
    case false =>
     have hnm : x.name = e.name := of_decide_eq_true HNQ.out
     have HNEXT := hide (show (out ++ [e]) ++ insG e true (l.drop (i + 1)) = tot by rw [← HEQ.out, HAT.out, HLT.out]; simp [hnm])
     clear hnm
     go_wp2_with (first
      | go_skip
      | (refine wpList_val_ rfl (exec_loadAll 45 _ rfl b (o + i * 108) rfl _ (entC x la lb) HRG.out Tryd.underlying45 rfl HSZ.out) ?_)
      | (refine wpList_alloc_blk rfl 45 rfl _ zero_ent ?_; intro w5 hb5 hw5 hs5; rw [HG9.out] at hb5; try rw [HG9.out]; have H9 := hide hb5; replace H1 := hide (H1.out.below hw5 H1.out.lt); replace HOWN := hide (HOWN.out.keptB hw5 hzr); replace HB := hide (HB.out.trans (hw5.mono hzr)); have hz5 : base ≤ w5.heap.size := Nat.le_trans hzr hw5.size; clear hb5 hw5)
      | (refine wpList_st_putAll _ _ _ rfl rfl rfl H9.out (entC x la lb) rfl (by rw [ent_len HXOK.out, ent_len (w := w) (B := 0) ⟨EntD.none_wf, Bs.nil_ _ _, Bs.nil_ _ _⟩]) HSZ.out HONES.out ?_; intro wq hb6 hg6 hs6; replace H1 := hide (H1.out.grown hg6 (by intro e; injection e; omega)); replace HOWN := hide (HOWN.out.past H9.out (by omega) (by kernel_rfl) (fun e => Nat.lt_irrefl _ (HOLT.out _ e)) hg6 hz5); replace H9 := hide hb6; replace HB := hide (HB.out.grown hg6 (by have := HB.out.size; omega) (by intro k hk; injection hk; omega)); clear hb6 hg6)
      | (refine wpList_st_get 9 _ rfl 0 rfl rfl H9.out _ Tryd.underlying9 rfl _ HX0.out ?_)
      | (refine wpList_st_all 45 _ rfl rfl rfl H9.out _ Tryd.underlying45 rfl HSZ.out ?_)
      | (refine wpList_val_ rfl (exec_geq_name _ _ _ rfl x.name e.name rfl rfl HXB.out HEB.out _ HGE.out) ?_)
      | (refine wpList_val_ rfl (exec_neq_name _ _ _ rfl x.name e.name rfl rfl HXB.out HEB.out _ HNQ.out) ?_)
      | (refine wpList_st_get 9 _ rfl 0 rfl rfl H1.out _ Tryd.underlying9 rfl _ HE0.out ?_)
      | (refine wpList_st_all 45 _ rfl rfl rfl H1.out _ Tryd.underlying45 rfl HEZ.out ?_))
     have hzka : base ≤ _ := Nat.le_trans hbw.2 HB.out.size
     have HOKa := hide ((HOE1.out.below HB.out hbase).more (Nat.le_trans hbase hzka))
     refine (fresh_any e lr lw _ HOKa.out HLE.out.1 HLE.out.2).mono ?_
     rintro _ wa ⟨lra, lwa, rfl, hra, hwa, hba⟩
     have HYa := hide (show (EntL.mk e lra lwa).Ok wa w.heap.size from ⟨HOKa.out.toWf, hra.litB, hwa.litB⟩)
     replace HOWN := hide (HOWN.out.keptB hba hzka)
     replace H1 := hide (H1.out.below hba H1.out.lt)
     replace H9 := hide (H9.out.below hba H9.out.lt)
     have hl9a := H9.out.lt
     replace HB := hide (HB.out.trans (hba.mono hzka))
     have hzla : base ≤ _ := Nat.le_trans hbw.2 HB.out.size
     clear hra hwa hba
     go_wp2_with (first
      | go_skip
      | (refine wpList_lit_ent rfl _ rfl (EntL.mk e lra lwa) HYa.out.wf rfl ?_)
      | (at_builtin; refine wpList_append_ent rfl _ _ rfl base w.heap.size u6 out rfl HOWN.out hzla HOL.out (EntL.mk e lra lwa) HYa.out rfl ?_; intro v6a w6a hoa hpa hka; have HOWNa := hide hoa; replace H1 := hide (H1.out.below hpa hg1b); replace H9 := hide (Blk.of_same (hka g9 hl9a (fun e => Nat.lt_irrefl _ (HOLT.out _ e))) H9.out); replace HB := hide (HB.out.trans hpa); clear hoa hpa hka)
      | (refine wpList_st_get 9 _ rfl 0 rfl rfl H9.out _ Tryd.underlying9 rfl _ HX0.out ?_)
      | (refine wpList_st_all 45 _ rfl rfl rfl H9.out _ Tryd.underlying45 rfl HSZ.out ?_)
      | (refine wpList_val_ rfl (exec_geq_name _ _ _ rfl x.name e.name rfl rfl HXB.out HEB.out _ HGE.out) ?_)
      | (refine wpList_val_ rfl (exec_neq_name _ _ _ rfl x.name e.name rfl rfl HXB.out HEB.out _ HNQ.out) ?_)
      | (refine wpList_st_get 9 _ rfl 0 rfl rfl H1.out _ Tryd.underlying9 rfl _ HE0.out ?_)
      | (refine wpList_st_all 45 _ rfl rfl rfl H1.out _ Tryd.underlying45 rfl HEZ.out ?_))
     go_roundw
     case measure => simp [intOf]; omega
     case rel => exact ⟨i + 1, out ++ [e], true, by go_num, rfl, by omega, HOWNa.out, HNEXT.out, HB.out⟩
    case true =>
     have hnm : ¬ x.name = e.name := of_decide_eq_false HNQ.out
     have HNEXT := hide (show (out ++ [e] ++ [x]) ++ insG e true (l.drop (i + 1)) = tot by rw [← HEQ.out, HAT.out, HLT.out]; simp [hnm])
     clear hnm
     go_wp2_with (first
      | go_skip
      | (refine wpList_val_ rfl (exec_loadAll 45 _ rfl b (o + i * 108) rfl _ (entC x la lb) HRG.out Tryd.underlying45 rfl HSZ.out) ?_)
      | (refine wpList_alloc_blk rfl 45 rfl _ zero_ent ?_; intro w5 hb5 hw5 hs5; rw [HG9.out] at hb5; try rw [HG9.out]; have H9 := hide hb5; replace H1 := hide (H1.out.below hw5 H1.out.lt); replace HOWN := hide (HOWN.out.keptB hw5 hzr); replace HB := hide (HB.out.trans (hw5.mono hzr)); have hz5 : base ≤ w5.heap.size := Nat.le_trans hzr hw5.size; clear hb5 hw5)
      | (refine wpList_st_putAll _ _ _ rfl rfl rfl H9.out (entC x la lb) rfl (by rw [ent_len HXOK.out, ent_len (w := w) (B := 0) ⟨EntD.none_wf, Bs.nil_ _ _, Bs.nil_ _ _⟩]) HSZ.out HONES.out ?_; intro wq hb6 hg6 hs6; replace H1 := hide (H1.out.grown hg6 (by intro e; injection e; omega)); replace HOWN := hide (HOWN.out.past H9.out (by omega) (by kernel_rfl) (fun e => Nat.lt_irrefl _ (HOLT.out _ e)) hg6 hz5); replace H9 := hide hb6; replace HB := hide (HB.out.grown hg6 (by have := HB.out.size; omega) (by intro k hk; injection hk; omega)); clear hb6 hg6)
      | (refine wpList_st_get 9 _ rfl 0 rfl rfl H9.out _ Tryd.underlying9 rfl _ HX0.out ?_)
      | (refine wpList_st_all 45 _ rfl rfl rfl H9.out _ Tryd.underlying45 rfl HSZ.out ?_)
      | (refine wpList_val_ rfl (exec_geq_name _ _ _ rfl x.name e.name rfl rfl HXB.out HEB.out _ HGE.out) ?_)
      | (refine wpList_val_ rfl (exec_neq_name _ _ _ rfl x.name e.name rfl rfl HXB.out HEB.out _ HNQ.out) ?_)
      | (refine wpList_st_get 9 _ rfl 0 rfl rfl H1.out _ Tryd.underlying9 rfl _ HE0.out ?_)
      | (refine wpList_st_all 45 _ rfl rfl rfl H1.out _ Tryd.underlying45 rfl HEZ.out ?_))
     have hzka : base ≤ _ := Nat.le_trans hbw.2 HB.out.size
     have HOKa := hide ((HOE1.out.below HB.out hbase).more (Nat.le_trans hbase hzka))
     refine (fresh_any e lr lw _ HOKa.out HLE.out.1 HLE.out.2).mono ?_
     rintro _ wa ⟨lra, lwa, rfl, hra, hwa, hba⟩
     have HYa := hide (show (EntL.mk e lra lwa).Ok wa w.heap.size from ⟨HOKa.out.toWf, hra.litB, hwa.litB⟩)
     replace HOWN := hide (HOWN.out.keptB hba hzka)
     replace H1 := hide (H1.out.below hba H1.out.lt)
     replace H9 := hide (H9.out.below hba H9.out.lt)
     have hl9a := H9.out.lt
     replace HB := hide (HB.out.trans (hba.mono hzka))
     have hzla : base ≤ _ := Nat.le_trans hbw.2 HB.out.size
     clear hra hwa hba
     go_wp2_with (first
      | go_skip
      | (refine wpList_lit_ent rfl _ rfl (EntL.mk e lra lwa) HYa.out.wf rfl ?_)
      | (at_builtin; refine wpList_append_ent rfl _ _ rfl base w.heap.size u6 out rfl HOWN.out hzla HOL.out (EntL.mk e lra lwa) HYa.out rfl ?_; intro v6a w6a hoa hpa hka; have HOWNa := hide hoa; replace H1 := hide (H1.out.below hpa hg1b); replace H9 := hide (Blk.of_same (hka g9 hl9a (fun e => Nat.lt_irrefl _ (HOLT.out _ e))) H9.out); replace HB := hide (HB.out.trans hpa); clear hoa hpa hka)
      | (refine wpList_st_get 9 _ rfl 0 rfl rfl H9.out _ Tryd.underlying9 rfl _ HX0.out ?_)
      | (refine wpList_st_all 45 _ rfl rfl rfl H9.out _ Tryd.underlying45 rfl HSZ.out ?_)
      | (refine wpList_val_ rfl (exec_geq_name _ _ _ rfl x.name e.name rfl rfl HXB.out HEB.out _ HGE.out) ?_)
      | (refine wpList_val_ rfl (exec_neq_name _ _ _ rfl x.name e.name rfl rfl HXB.out HEB.out _ HNQ.out) ?_)
      | (refine wpList_st_get 9 _ rfl 0 rfl rfl H1.out _ Tryd.underlying9 rfl _ HE0.out ?_)
      | (refine wpList_st_all 45 _ rfl rfl rfl H1.out _ Tryd.underlying45 rfl HEZ.out ?_))
     replace HOL := hide (show (out ++ [e]).length ≤ 1000000 by have := HOL1.out; simp; omega)
     have hzkb : base ≤ _ := Nat.le_trans hbw.2 HB.out.size
     have HOKb := hide ((HX1OK.out.below HB.out hbase).more (Nat.le_trans hbase hzkb))
     refine (fresh_any x la lb _ HOKb.out HLI.out.1 HLI.out.2).mono ?_
     rintro _ wb ⟨lrb, lwb, rfl, hrb, hwb, hbb⟩
     have HYb := hide (show (EntL.mk x lrb lwb).Ok wb w.heap.size from ⟨HOKb.out.toWf, hrb.litB, hwb.litB⟩)
     replace HOWNa := hide (HOWNa.out.keptB hbb hzkb)
     replace H1 := hide (H1.out.below hbb H1.out.lt)
     replace HB := hide (HB.out.trans (hbb.mono hzkb))
     have hzlb : base ≤ _ := Nat.le_trans hbw.2 HB.out.size
     clear hrb hwb hbb
     go_wp2_with (first
      | go_skip
      | (refine wpList_lit_ent rfl _ rfl (EntL.mk x lrb lwb) HYb.out.wf rfl ?_)
      | (at_builtin; refine wpList_append_ent rfl _ _ rfl base w.heap.size v6a (out ++ [e]) rfl HOWNa.out hzlb HOL.out (EntL.mk x lrb lwb) HYb.out rfl ?_; intro v6b w6b hob hpb hkb; have HOWNb := hide hob; replace H1 := hide (H1.out.below hpb hg1b); replace HB := hide (HB.out.trans hpb); clear hob hpb hkb))
     go_roundw
     case measure => simp [intOf]; omega
     case rel => exact ⟨i + 1, out ++ [e] ++ [x], true, by go_num, rfl, by omega, HOWNb.out, HNEXT.out, HB.out⟩
  · obtain rfl : i = n := by omega
    have hlt' : ¬ (i : Int) < (i : Int) := by omega
    have HEND := hide (show out ++ (if put then [] else [e]) = tot by rw [← HEQ.out, List.drop_eq_nil_of_le (by rw [HN.out]; exact Nat.le_refl _)]; rfl)
    rcases put with _ | _
    case true =>
     have HOT := hide (show out = tot by rw [← HEND.out]; simp)
     rw [HOT.out] at HOWN
     go_wp2_with go_skip
     have hzf : base ≤ wr.heap.size := Nat.le_trans hbw.2 HB.out.size
     have hzw := Nat.le_trans hbase hzf
     have HWB := hide (HW1.out.trans (HB.out.mono hbase))
     refine (dright_any (.slice A i c) l wr ((HV.out.below HWB.out (Nat.le_refl _)).more hzw) HLIT.out (by rw [HN.out]; omega) ((HT.out.below HWB.out (Nat.le_refl _)).more hzw)).mono ?_
     rintro _ wf ⟨rfl, hbf⟩
     rw [HRL.out]
     replace HOWN := hide (HOWN.out.keptB hbf hzf)
     replace HB := hide (HB.out.trans (hbf.mono hzf))
     clear hbf
     rcases rl with _ | _
     case false =>
      go_wp2_with go_skip
      go_ret2
      exact ⟨_, rfl, OwnEnts.nil_ _ (Nat.le_refl _), HW1.out.trans (HB.out.mono hbase)⟩

     have hzg : base ≤ wf.heap.size := Nat.le_trans hbw.2 HB.out.size
     have hzw2 := Nat.le_trans hbase hzg
     replace HWB := hide (HW1.out.trans (HB.out.mono hbase))
     go_wp2_with go_skip
     refine (dright_any u6 tot wf (HOWN.out.reads hzg) HTM.out (by have := HTL.out; omega) ((HT.out.below HWB.out (Nat.le_refl _)).more hzw2)).mono ?_
     rintro _ wh ⟨rfl, hbh⟩
     rw [HRT.out]
     replace HOWN := hide (HOWN.out.keptB hbh hzg)
     replace HB := hide (HB.out.trans (hbh.mono hzg))
     clear hbh
     rcases rt with _ | _
     case false =>
      go_wp2_with go_skip
      go_ret2
      exact ⟨_, rfl, OwnEnts.nil_ _ (Nat.le_refl _), HW1.out.trans (HB.out.mono hbase)⟩

     go_wp2_with go_skip
     go_ret2
     exact ⟨_, rfl, HOWN.out.lower hbase (Nat.le_refl _) (Nat.le_refl _), HW1.out.trans (HB.out.mono hbase)⟩
    have HOT := hide (show out ++ [e] = tot from HEND.out)
    go_wp2_with (first
     | go_skip
     | (refine wpList_st_get 9 _ rfl 0 rfl rfl H1.out _ Tryd.underlying9 rfl _ HE0.out ?_)
     | (refine wpList_st_all 45 _ rfl rfl rfl H1.out _ Tryd.underlying45 rfl HEZ.out ?_))
    have hzka : base ≤ _ := Nat.le_trans hbw.2 HB.out.size
    have HOKa := hide ((HOE1.out.below HB.out hbase).more (Nat.le_trans hbase hzka))
    refine (fresh_any e lr lw _ HOKa.out HLE.out.1 HLE.out.2).mono ?_
    rintro _ wa ⟨lra, lwa, rfl, hra, hwa, hba⟩
    have HYa := hide (show (EntL.mk e lra lwa).Ok wa w.heap.size from ⟨HOKa.out.toWf, hra.litB, hwa.litB⟩)
    replace HOWN := hide (HOWN.out.keptB hba hzka)
    replace H1 := hide (H1.out.below hba H1.out.lt)
    replace HB := hide (HB.out.trans (hba.mono hzka))
    have hzla : base ≤ _ := Nat.le_trans hbw.2 HB.out.size
    clear hra hwa hba
    go_wp2_with (first
     | go_skip
     | (refine wpList_lit_ent rfl _ rfl (EntL.mk e lra lwa) HYa.out.wf rfl ?_)
     | (at_builtin; refine wpList_append_ent rfl _ _ rfl base w.heap.size u6 out rfl HOWN.out hzla HOL.out (EntL.mk e lra lwa) HYa.out rfl ?_; intro v6a w6a hoa hpa hka; have HOWNa := hide hoa; replace H1 := hide (H1.out.below hpa hg1b); replace HB := hide (HB.out.trans hpa); clear hoa hpa hka))
    replace HOWNa := hide (show OwnEnts w6a base w.heap.size v6a tot from HOT.out ▸ HOWNa.out)
    have hzf : base ≤ w6a.heap.size := Nat.le_trans hbw.2 HB.out.size
    have hzw := Nat.le_trans hbase hzf
    have HWB := hide (HW1.out.trans (HB.out.mono hbase))
    refine (dright_any (.slice A i c) l w6a ((HV.out.below HWB.out (Nat.le_refl _)).more hzw) HLIT.out (by rw [HN.out]; omega) ((HT.out.below HWB.out (Nat.le_refl _)).more hzw)).mono ?_
    rintro _ wf ⟨rfl, hbf⟩
    rw [HRL.out]
    replace HOWNa := hide (HOWNa.out.keptB hbf hzf)
    replace HB := hide (HB.out.trans (hbf.mono hzf))
    clear hbf
    rcases rl with _ | _
    case false =>
     go_wp2_with go_skip
     go_ret2
     exact ⟨_, rfl, OwnEnts.nil_ _ (Nat.le_refl _), HW1.out.trans (HB.out.mono hbase)⟩

    have hzg : base ≤ wf.heap.size := Nat.le_trans hbw.2 HB.out.size
    have hzw2 := Nat.le_trans hbase hzg
    replace HWB := hide (HW1.out.trans (HB.out.mono hbase))
    go_wp2_with go_skip
    refine (dright_any v6a tot wf (HOWNa.out.reads hzg) HTM.out (by have := HTL.out; omega) ((HT.out.below HWB.out (Nat.le_refl _)).more hzw2)).mono ?_
    rintro _ wh ⟨rfl, hbh⟩
    rw [HRT.out]
    replace HOWNa := hide (HOWNa.out.keptB hbh hzg)
    replace HB := hide (HB.out.trans (hbh.mono hzg))
    clear hbh
    rcases rt with _ | _
    case false =>
     go_wp2_with go_skip
     go_ret2
     exact ⟨_, rfl, OwnEnts.nil_ _ (Nat.le_refl _), HW1.out.trans (HB.out.mono hbase)⟩

    go_wp2_with go_skip
    go_ret2
    exact ⟨_, rfl, HOWNa.out.lower hbase (Nat.le_refl _) (Nat.le_refl _), HW1.out.trans (HB.out.mono hbase)⟩
end Go.Proofs.YthdjgebbjogmiaaDoor
