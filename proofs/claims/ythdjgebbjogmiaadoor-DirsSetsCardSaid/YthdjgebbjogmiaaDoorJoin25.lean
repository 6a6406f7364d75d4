/- dirs.Remove: without a name. Condition: the table of powers of ten stands; literals of at most a million bytes.
The document's RemoveEntry: without a name. Condition: literals of at most a million bytes.
dirs.Find: the entry of a name. Condition: literals of at most a million bytes. -/
import Derived.Test.YthdjgebbjogmiaaDoorJoin24
import Derived.Test.YthdjgebbjogmiaaDoorDirRight
import Derived.Test.YthdjgebbjogmiaaDoorDirRightR
set_option linter.unusedVariables false
set_option linter.unusedSimpArgs false
namespace Go.Proofs.YthdjgebbjogmiaaDoor
open Go Go.RowKit
set_option linter.unusedVariables false
set_option linter.unusedSimpArgs false
set_option maxRecDepth 100000
set_option maxHeartbeats 16000000
theorem drem_any (v : Value) (l : List EntD) (nm : List Int) (w : World) (hv : EntsB w w.heap.size v l) (hnb : Bytes nm) (hlit : ∀ e ∈ l, e.read.lit.length ≤ 1000000 ∧ e.write.lit.length ≤ 1000000) (hn : l.length ≤ 999000) (ht : Tab w w.heap.size) :
 Calls Tryd.prog 24 #[v, .string (strOfNums nm)] w fun r w' => ∃ v', r = .returned (.tuple #[v', .int .i64 (remB l nm)]) ∧ OwnEnts w' w.heap.size w.heap.size v' (remF l nm) ∧ Below w.heap.size w w' := by
 have HT := hide ht
 have HLIT := hide hlit
 have HV := hide hv
 have HNB := hide hnb
 have HDR := hide (dright_any v l w hv hlit (by omega) ht)
 obtain ⟨A, c, rfl, h1, h2, h3⟩ := hv
 unfold maxLen at h2
 have HA := hide h3
 obtain ⟨n, HN⟩ : ∃ k, Hid (l.length = k) := ⟨_, hide rfl⟩
 obtain ⟨tot, HTOT⟩ : ∃ t, Hid (remL l nm = t) := ⟨_, hide rfl⟩
 have HTL := hide (show tot.length ≤ n by rw [← HTOT.out, ← HN.out]; exact List.length_filter_le _ _)
 obtain ⟨rl, HRL⟩ : ∃ b, Hid (rightB l = b) := ⟨_, hide rfl⟩
 have HSF := hide (show remB l nm = (if rl then (if tot.length = n then 4 else 0) else 1) ∧ remF l nm = (if rl then (if tot.length = n then [] else tot) else []) by unfold remB remF; rw [HTOT.out, HRL.out, HN.out]; exact ⟨rfl, rfl⟩)
 obtain ⟨ER, HER⟩ : ∃ k, Hid (remB l nm = k) := ⟨_, hide rfl⟩
 obtain ⟨FR, HFR⟩ : ∃ k, Hid (remF l nm = k) := ⟨_, hide rfl⟩
 rw [HER.out, HFR.out] at HSF
 rw [HER.out, HFR.out]
 rw [HN.out] at h1 hn HV HDR ⊢
 rw [HRL.out] at HDR
 clear h3 hlit ht hnb
 go_enter Tryd.func24, Tryd.ntmps24
 go_wp2_with fail
 refine HDR.out.mono ?_
 rintro _ w1 ⟨rfl, hb1⟩
 have HW1 := hide hb1
 clear hb1 HDR
 rcases rl with _ | _
 case false =>
  go_wp2_with fail
  go_ret2
  exact ⟨.slice none 0 0, by rw [HSF.out.1]; rfl, by rw [HSF.out.2]; exact OwnEnts.nil_ _ (Nat.le_refl _), HW1.out⟩
 obtain ⟨base, HBASE⟩ : ∃ k, Hid (w1.heap.size = k) := ⟨_, hide rfl⟩
 have hbw : w1.heap.size ≤ base ∧ base ≤ w1.heap.size := by have := HBASE.out; omega
 have hbase : w.heap.size ≤ base := by have := HBASE.out; have := HW1.out.size; omega
 have HBe := hide (Below.refl base w1)
 go_wp2_with fail
 go_loopw [6, 14] (fun v6 v14 wr => ∃ (i : Nat) (out : List EntD), v14 = .int .i64 (i : Int) ∧ i ≤ n ∧ OwnEnts wr base w.heap.size v6 out ∧ out ++ remL (l.drop i) nm = tot ∧ Below base w1 wr) (fun _ v14 _ => n - (intOf v14).toNat)
 case atStart => exact ⟨0, [], by go_num, by omega, OwnEnts.nil_ _ hbase, HTOT.out, HBe.out⟩
 case round =>
  obtain ⟨i, out, rfl, hin, how, heq, hb⟩ := hrel
  have HOWN := hide how
  have HEQ := hide heq
  have HB := hide hb
  have hzr : base ≤ wr.heap.size := Nat.le_trans hbw.2 hb.size
  have HOL := hide (show out.length ≤ 1000000 by have := HTL.out; rw [← HEQ.out, List.length_append] at this; omega)
  clear how heq hb HBe
  by_cases hlt : i < n
  · skip
    have hlt' : (i : Int) < (n : Int) := by omega
    obtain ⟨b, o, rfl, hbb, hca⟩ := HA.out (by rw [HN.out]; omega)
    obtain ⟨la, lb, hok, hrg⟩ := hca i (by rw [HN.out]; exact hlt)
    have HAT := hide (remL_at l nm i (by rw [HN.out]; exact hlt))
    have hli := HLIT.out _ (List.getElem_mem (show i < l.length by rw [HN.out]; exact hlt))
    obtain ⟨x, HX⟩ : ∃ x, Hid (l[i]'(by rw [HN.out]; exact hlt) = x) := ⟨_, hide rfl⟩
    rw [HX.out] at hok hrg HAT hli
    have HXOK := hide hok
    have HX1OK := hide (hok.below HW1.out (Nat.le_refl _))
    have HSZ := hide (show (Tryd.prog.info? 45).map (·.size) = some (entC x la lb).length by rw [ent_len hok]; exact size_ent)
    have HRG := hide (fun (j : Nat) (u : Value) (hu : (entC x la lb)[j]? = some u) => show _ = some u from ((HW1.out.trans (HB.out.mono hbase)).cell (p := ⟨b, o + i * 108 + j, none⟩) hbb).trans (hrg j u hu))
    have HXB := hide hok.nameB
    have HONES := hide (ent_ones hok)
    have HX0 := hide (show (entC x la lb)[0]? = some (.string (strOfNums x.name)) from ent_name)
    have HLI := hide hli
    clear hok hrg hca hli HX
    obtain ⟨g9, HG9⟩ : ∃ k, Hid (wr.heap.size = k) := ⟨_, hide rfl⟩
    have hg9 : base ≤ g9 ∧ g9 ≤ wr.heap.size := by have := HG9.out; omega
    have HOLT := hide (fun (k : Nat) (hk : u6.ownBlock = some k) => show k < g9 by have := HOWN.out.lt k hk; have := HG9.out; omega)
    obtain ⟨qn, HNQ⟩ : ∃ q, Hid (decide (x.name = nm) = !q) := ⟨!(decide (x.name = nm)), hide (by rw [Bool.not_not])⟩
    rcases qn with _ | _
    case false =>
     have hnm : x.name = nm := of_decide_eq_true HNQ.out
     have HNEXT := hide (show out ++ remL (l.drop (i + 1)) nm = tot by rw [← HEQ.out, HAT.out]; simp [hnm])
     clear hnm
     go_wp2_with (first
      | go_skip
      | (refine wpList_val_ rfl (exec_loadAll 45 _ rfl b (o + i * 108) rfl _ (entC x la lb) HRG.out Tryd.underlying45 rfl HSZ.out) ?_)
      | (refine wpList_alloc_blk rfl 45 rfl _ zero_ent ?_; intro w5 hb5 hw5 hs5; rw [HG9.out] at hb5; try rw [HG9.out]; have H9 := hide hb5; replace HOWN := hide (HOWN.out.keptB hw5 hzr); replace HB := hide (HB.out.trans (hw5.mono hzr)); have hz5 : base ≤ w5.heap.size := Nat.le_trans hzr hw5.size; clear hb5 hw5)
      | (refine wpList_st_putAll _ _ _ rfl rfl rfl H9.out (entC x la lb) rfl (by rw [ent_len HXOK.out, ent_len (w := w) (B := 0) ⟨EntD.none_wf, Bs.nil_ _ _, Bs.nil_ _ _⟩]) HSZ.out HONES.out ?_; intro wq hb6 hg6 hs6; replace HOWN := hide (HOWN.out.past H9.out (by omega) (by kernel_rfl) (fun e => Nat.lt_irrefl _ (HOLT.out _ e)) hg6 hz5); replace H9 := hide hb6; replace HB := hide (HB.out.grown hg6 (by have := HB.out.size; omega) (by intro k hk; injection hk; omega)); clear hb6 hg6)
      | (refine wpList_st_get 9 _ rfl 0 rfl rfl H9.out _ Tryd.underlying9 rfl _ HX0.out ?_)
      | (refine wpList_st_all 45 _ rfl rfl rfl H9.out _ Tryd.underlying45 rfl HSZ.out ?_)
      | (refine wpList_val_ rfl (exec_neq_name _ _ _ rfl x.name nm rfl rfl HXB.out HNB.out _ HNQ.out) ?_))
     go_roundw
     case measure => simp [intOf]; omega
     case rel => exact ⟨i + 1, out, by go_num, by omega, HOWN.out, HNEXT.out, HB.out⟩
    case true =>
     have hnm : ¬ x.name = nm := of_decide_eq_false HNQ.out
     have HNEXT := hide (show (out ++ [x]) ++ remL (l.drop (i + 1)) nm = tot by rw [← HEQ.out, HAT.out]; simp [hnm])
     clear hnm
     go_wp2_with (first
      | go_skip
      | (refine wpList_val_ rfl (exec_loadAll 45 _ rfl b (o + i * 108) rfl _ (entC x la lb) HRG.out Tryd.underlying45 rfl HSZ.out) ?_)
      | (refine wpList_alloc_blk rfl 45 rfl _ zero_ent ?_; intro w5 hb5 hw5 hs5; rw [HG9.out] at hb5; try rw [HG9.out]; have H9 := hide hb5; replace HOWN := hide (HOWN.out.keptB hw5 hzr); replace HB := hide (HB.out.trans (hw5.mono hzr)); have hz5 : base ≤ w5.heap.size := Nat.le_trans hzr hw5.size; clear hb5 hw5)
      | (refine wpList_st_putAll _ _ _ rfl rfl rfl H9.out (entC x la lb) rfl (by rw [ent_len HXOK.out, ent_len (w := w) (B := 0) ⟨EntD.none_wf, Bs.nil_ _ _, Bs.nil_ _ _⟩]) HSZ.out HONES.out ?_; intro wq hb6 hg6 hs6; replace HOWN := hide (HOWN.out.past H9.out (by omega) (by kernel_rfl) (fun e => Nat.lt_irrefl _ (HOLT.out _ e)) hg6 hz5); replace H9 := hide hb6; replace HB := hide (HB.out.grown hg6 (by have := HB.out.size; omega) (by intro k hk; injection hk; omega)); clear hb6 hg6)
      | (refine wpList_st_get 9 _ rfl 0 rfl rfl H9.out _ Tryd.underlying9 rfl _ HX0.out ?_)
      | (refine wpList_st_all 45 _ rfl rfl rfl H9.out _ Tryd.underlying45 rfl HSZ.out ?_)
      | (refine wpList_val_ rfl (exec_neq_name _ _ _ rfl x.name nm rfl rfl HXB.out HNB.out _ HNQ.out) ?_))
     have hzk : base ≤ _ := Nat.le_trans hbw.2 HB.out.size
     have HOKb := hide ((HX1OK.out.below HB.out hbase).more (Nat.le_trans hbase hzk))
     refine (fresh_any x la lb _ HOKb.out HLI.out.1 HLI.out.2).mono ?_
     rintro _ wb ⟨lrb, lwb, rfl, hrb, hwb, hbb2⟩
     have HYb := hide (show (EntL.mk x lrb lwb).Ok wb w.heap.size from ⟨HOKb.out.toWf, hrb.litB, hwb.litB⟩)
     replace HOWN := hide (HOWN.out.keptB hbb2 hzk)
     replace HB := hide (HB.out.trans (hbb2.mono hzk))
     have hzl : base ≤ _ := Nat.le_trans hbw.2 HB.out.size
     clear hrb hwb hbb2
     go_wp2_with (first
      | go_skip
      | (refine wpList_lit_ent rfl _ rfl (EntL.mk x lrb lwb) HYb.out.wf rfl ?_)
      | (at_builtin; refine wpList_append_ent rfl _ _ rfl base w.heap.size u6 out rfl HOWN.out hzl HOL.out (EntL.mk x lrb lwb) HYb.out rfl ?_; intro v6b w6b hob hpb hkb; have HOWNb := hide hob; replace HB := hide (HB.out.trans hpb); clear hob hpb hkb))
     go_roundw
     case measure => simp [intOf]; omega
     case rel => exact ⟨i + 1, out ++ [x], by go_num, by omega, HOWNb.out, HNEXT.out, HB.out⟩
  · obtain rfl : i = n := by omega
    have hlt' : ¬ (i : Int) < (i : Int) := by omega
    have HOT := hide (show out = tot by have := HEQ.out; rw [List.drop_eq_nil_of_le (by rw [HN.out]; exact Nat.le_refl _)] at this; simpa [remL] using this)
    rw [HOT.out] at HOWN
    have HWB := hide (HW1.out.trans (HB.out.mono hbase))
    obtain ⟨A6, c6, e6⟩ := HOWN.out.shape
    obtain ⟨m, HM⟩ : ∃ k, Hid (tot.length = k) := ⟨_, hide rfl⟩
    rw [HM.out] at e6
    subst e6
    have hm6 : m ≤ i := by have := HM.out; have := HTL.out; omega
    by_cases hme : m = i
    · have hq : ((m : Int) == (i : Int)) = true := by rw [hme]; simp
      have HRE := hide (show ER = 4 ∧ FR = [] by rw [HSF.out.1, HSF.out.2, HM.out]; simp [hme])
      clear hme
      go_wp2_with fail
      go_ret2
      exact ⟨.slice none 0 0, by rw [HRE.out.1]; rfl, by rw [HRE.out.2]; exact OwnEnts.nil_ _ (Nat.le_refl _), HWB.out⟩
    · have hq : ((m : Int) == (i : Int)) = false := by simp; omega
      have HRE := hide (show ER = 0 ∧ FR = tot by rw [HSF.out.1, HSF.out.2, HM.out]; simp [hme])
      clear hme
      go_wp2_with fail
      go_ret2
      exact ⟨.slice A6 m c6, by rw [HRE.out.1]; rfl, by rw [HRE.out.2]; exact HOWN.out.lower hbase (Nat.le_refl _) (Nat.le_refl _), HWB.out⟩
end Go.Proofs.YthdjgebbjogmiaaDoor

namespace Go.Proofs.YthdjgebbjogmiaaDoor
open Go Go.RowKit
set_option linter.unusedVariables false
set_option linter.unusedSimpArgs false
set_option maxRecDepth 100000
set_option maxHeartbeats 16000000
theorem dremR_any (v : Value) (l : List EntD) (nm : List Int) (w : World) (hv : EntsB w w.heap.size v l) (hnb : Bytes nm) (hlit : ∀ e ∈ l, e.read.lit.length ≤ 1000000 ∧ e.write.lit.length ≤ 1000000) (hn : l.length ≤ 999000) :
 Calls Tryd.prog 25 #[v, .string (strOfNums nm)] w fun r w' => ∃ v', r = .returned (.tuple #[v', .int .i64 (remB l nm)]) ∧ OwnEnts w' w.heap.size w.heap.size v' (remF l nm) ∧ Below w.heap.size w w' := by
 have HLIT := hide hlit
 have HV := hide hv
 have HNB := hide hnb
 have HDR := hide (drightR_any v l w hv hlit (by omega))
 obtain ⟨A, c, rfl, h1, h2, h3⟩ := hv
 unfold maxLen at h2
 have HA := hide h3
 obtain ⟨n, HN⟩ : ∃ k, Hid (l.length = k) := ⟨_, hide rfl⟩
 obtain ⟨tot, HTOT⟩ : ∃ t, Hid (remL l nm = t) := ⟨_, hide rfl⟩
 have HTL := hide (show tot.length ≤ n by rw [← HTOT.out, ← HN.out]; exact List.length_filter_le _ _)
 obtain ⟨rl, HRL⟩ : ∃ b, Hid (rightB l = b) := ⟨_, hide rfl⟩
 have HSF := hide (show remB l nm = (if rl then (if tot.length = n then 4 else 0) else 1) ∧ remF l nm = (if rl then (if tot.length = n then [] else tot) else []) by unfold remB remF; rw [HTOT.out, HRL.out, HN.out]; exact ⟨rfl, rfl⟩)
 obtain ⟨ER, HER⟩ : ∃ k, Hid (remB l nm = k) := ⟨_, hide rfl⟩
 obtain ⟨FR, HFR⟩ : ∃ k, Hid (remF l nm = k) := ⟨_, hide rfl⟩
 rw [HER.out, HFR.out] at HSF
 rw [HER.out, HFR.out]
 rw [HN.out] at h1 hn HV HDR ⊢
 rw [HRL.out] at HDR
 clear h3 hlit hnb
 go_enter Tryd.func25, Tryd.ntmps25
 go_wp2_with fail
 refine HDR.out.mono ?_
 rintro _ w1 ⟨rfl, hb1⟩
 have HW1 := hide hb1
 clear hb1 HDR
 rcases rl with _ | _
 case false =>
  go_wp2_with fail
  go_ret2
  exact ⟨.slice none 0 0, by rw [HSF.out.1]; rfl, by rw [HSF.out.2]; exact OwnEnts.nil_ _ (Nat.le_refl _), HW1.out⟩
 obtain ⟨base, HBASE⟩ : ∃ k, Hid (w1.heap.size = k) := ⟨_, hide rfl⟩
 have hbw : w1.heap.size ≤ base ∧ base ≤ w1.heap.size := by have := HBASE.out; omega
 have hbase : w.heap.size ≤ base := by have := HBASE.out; have := HW1.out.size; omega
 have HBe := hide (Below.refl base w1)
 go_wp2_with fail
 go_loopw [6, 13] (fun v6 v13 wr => ∃ (i : Nat) (out : List EntD), v13 = .int .i64 (i : Int) ∧ i ≤ n ∧ OwnEnts wr base w.heap.size v6 out ∧ out ++ remL (l.drop i) nm = tot ∧ Below base w1 wr) (fun _ v13 _ => n - (intOf v13).toNat)
 case atStart => exact ⟨0, [], by go_num, by omega, OwnEnts.nil_ _ hbase, HTOT.out, HBe.out⟩
 case round =>
  obtain ⟨i, out, rfl, hin, how, heq, hb⟩ := hrel
  have HOWN := hide how
  have HEQ := hide heq
  have HB := hide hb
  have hzr : base ≤ wr.heap.size := Nat.le_trans hbw.2 hb.size
  have HOL := hide (show out.length ≤ 1000000 by have := HTL.out; rw [← HEQ.out, List.length_append] at this; omega)
  clear how heq hb HBe
  by_cases hlt : i < n
  · skip
    have hlt' : (i : Int) < (n : Int) := by omega
    obtain ⟨b, o, rfl, hbb, hca⟩ := HA.out (by rw [HN.out]; omega)
    obtain ⟨la, lb, hok, hrg⟩ := hca i (by rw [HN.out]; exact hlt)
    have HAT := hide (remL_at l nm i (by rw [HN.out]; exact hlt))
    have hli := HLIT.out _ (List.getElem_mem (show i < l.length by rw [HN.out]; exact hlt))
    obtain ⟨x, HX⟩ : ∃ x, Hid (l[i]'(by rw [HN.out]; exact hlt) = x) := ⟨_, hide rfl⟩
    rw [HX.out] at hok hrg HAT hli
    have HXOK := hide hok
    have HSZ := hide (show (Tryd.prog.info? 45).map (·.size) = some (entC x la lb).length by rw [ent_len hok]; exact size_ent)
    have HRG := hide (fun (j : Nat) (u : Value) (hu : (entC x la lb)[j]? = some u) => show _ = some u from ((HW1.out.trans (HB.out.mono hbase)).cell (p := ⟨b, o + i * 108 + j, none⟩) hbb).trans (hrg j u hu))
    have HXB := hide hok.nameB
    have HONES := hide (ent_ones hok)
    have HX0 := hide (show (entC x la lb)[0]? = some (.string (strOfNums x.name)) from ent_name)
    have HLI := hide hli
    clear hok hrg hca hli HX
    have HNX := hide (show wr.cell? ⟨b, o + i * 108, none⟩ = some (.string (strOfNums x.name)) by have := HRG.out 0 _ HX0.out; rwa [Nat.add_zero] at this)
    have HYx := hide (show (EntL.mk x la lb).Ok wr w.heap.size from ⟨HXOK.out.toWf, .inl (HXOK.out.r1.below (HW1.out.trans (HB.out.mono hbase)) (Nat.le_refl _)), .inl (HXOK.out.w1.below (HW1.out.trans (HB.out.mono hbase)) (Nat.le_refl _))⟩)
    obtain ⟨qn, HNQ⟩ : ∃ q, Hid (decide (x.name = nm) = !q) := ⟨!(decide (x.name = nm)), hide (by rw [Bool.not_not])⟩
    rcases qn with _ | _
    case false =>
     have hnm : x.name = nm := of_decide_eq_true HNQ.out
     have HNEXT := hide (show out ++ remL (l.drop (i + 1)) nm = tot by rw [← HEQ.out, HAT.out]; simp [hnm])
     clear hnm
     go_wp2_with (first
      | go_skip
      | (refine wpList_val_ rfl (exec_load_one _ _ rfl b (o + i * 108) rfl _ Tryd.underlying9 rfl _ HNX.out) ?_)
      | (refine wpList_val_ rfl (exec_neq_name _ _ _ rfl x.name nm rfl rfl HXB.out HNB.out _ HNQ.out) ?_))
     go_roundw
     case measure => simp [intOf]; omega
     case rel => exact ⟨i + 1, out, by go_num, by omega, HOWN.out, HNEXT.out, HB.out⟩
    case true =>
     have hnm : ¬ x.name = nm := of_decide_eq_false HNQ.out
     have HNEXT := hide (show (out ++ [x]) ++ remL (l.drop (i + 1)) nm = tot by rw [← HEQ.out, HAT.out]; simp [hnm])
     clear hnm
     go_wp2_with (first
      | go_skip
      | (refine wpList_val_ rfl (exec_load_one _ _ rfl b (o + i * 108) rfl _ Tryd.underlying9 rfl _ HNX.out) ?_)
      | (refine wpList_val_ rfl (exec_neq_name _ _ _ rfl x.name nm rfl rfl HXB.out HNB.out _ HNQ.out) ?_)
      | (refine wpList_val_ rfl (exec_loadAll 45 _ rfl b (o + i * 108) rfl _ (entC x la lb) HRG.out Tryd.underlying45 rfl HSZ.out) ?_)
      | (refine wpList_lit_ent rfl _ rfl (EntL.mk x la lb) HYx.out.wf rfl ?_)
      | (at_builtin; refine wpList_append_ent rfl _ _ rfl base w.heap.size u6 out rfl HOWN.out hzr HOL.out (EntL.mk x la lb) HYx.out rfl ?_; intro v6b w6b hob hpb hkb; replace HOWN := hide hob; replace HB := hide (HB.out.trans hpb); clear hob hpb hkb))
     go_roundw
     case measure => simp [intOf]; omega
     case rel => exact ⟨i + 1, out ++ [x], by go_num, by omega, HOWN.out, HNEXT.out, HB.out⟩
  · obtain rfl : i = n := by omega
    have hlt' : ¬ (i : Int) < (i : Int) := by omega
    have HOT := hide (show out = tot by have := HEQ.out; rw [List.drop_eq_nil_of_le (by rw [HN.out]; exact Nat.le_refl _)] at this; simpa [remL] using this)
    rw [HOT.out] at HOWN
    have HWB := hide (HW1.out.trans (HB.out.mono hbase))
    obtain ⟨A6, c6, e6⟩ := HOWN.out.shape
    obtain ⟨m, HM⟩ : ∃ k, Hid (tot.length = k) := ⟨_, hide rfl⟩
    rw [HM.out] at e6
    subst e6
    have hm6 : m ≤ i := by have := HM.out; have := HTL.out; omega
    by_cases hme : m = i
    · have hq : ((m : Int) == (i : Int)) = true := by rw [hme]; simp
      have HRE := hide (show ER = 4 ∧ FR = [] by rw [HSF.out.1, HSF.out.2, HM.out]; simp [hme])
      clear hme
      go_wp2_with fail
      go_ret2
      exact ⟨.slice none 0 0, by rw [HRE.out.1]; rfl, by rw [HRE.out.2]; exact OwnEnts.nil_ _ (Nat.le_refl _), HWB.out⟩
    · have hq : ((m : Int) == (i : Int)) = false := by simp; omega
      have HRE := hide (show ER = 0 ∧ FR = tot by rw [HSF.out.1, HSF.out.2, HM.out]; simp [hme])
      clear hme
      go_wp2_with fail
      go_ret2
      exact ⟨.slice A6 m c6, by rw [HRE.out.1]; rfl, by rw [HRE.out.2]; exact HOWN.out.lower hbase (Nat.le_refl _) (Nat.le_refl _), HWB.out⟩
end Go.Proofs.YthdjgebbjogmiaaDoor

namespace Go.Proofs.YthdjgebbjogmiaaDoor
open Go Go.RowKit
set_option linter.unusedVariables false
set_option linter.unusedSimpArgs false
set_option maxRecDepth 100000
set_option maxHeartbeats 16000000
/-- What Find answers. -/
def FindRes (w : World) (r : Ending) (w' : World) (o : Option EntD) : Prop :=
 (∃ e lr lw, o = some e ∧ r = .returned (.tuple #[.agg (entC e lr lw).toArray, .bool true]) ∧ RowB w' w.heap.size lr e.read.lit ∧ RowB w' w.heap.size lw e.write.lit ∧ e.Wf ∧ Below w.heap.size w w') ∨
 (o = none ∧ r = .returned (.tuple #[.agg (entC EntD.none_ (.slice none 0 0) (.slice none 0 0)).toArray, .bool false]) ∧ Below w.heap.size w w')
theorem exec_eql_name {o : Oper} {a : Act} {w : World} (x y : Operand) (t : TypeId) (ho : o.op = .binOp .eql 9 x y t) (xs ys : List Int) (hx : a.eval x = .string (strOfNums xs)) (hy : a.eval y = .string (strOfNums ys)) (hbx : Bytes xs) (hby : Bytes ys) (q : Bool) (hq : decide (xs = ys) = q) :
 (execOp a.eval o).run Tryd.prog w = .ok (.value (.bool q)) w := by
 have he := name_eq hbx hby
 rw [hq] at he
 unfold execOp
 simp only [ho, hx, hy]
 go_simp
 try simp [he]
theorem findL_at (l : List EntD) (nm : List Int) (i : Nat) (h : i < l.length) : findL (l.drop i) nm = if l[i].name = nm then some l[i] else findL (l.drop (i + 1)) nm := by
 rw [List.drop_eq_getElem_cons h]
 unfold findL
 rw [List.find?_cons]
 by_cases h' : l[i].name = nm <;> simp [h']
theorem dfind_any (v : Value) (l : List EntD) (nm : List Int) (w : World) (hv : EntsB w w.heap.size v l) (hnb : Bytes nm) (hlit : ∀ e ∈ l, e.read.lit.length ≤ 1000000 ∧ e.write.lit.length ≤ 1000000) (hn : l.length ≤ 999000) :
 Calls Tryd.prog 26 #[v, .string (strOfNums nm)] w fun r w' => FindRes w r w' (findL l nm) := by
 have HLIT := hide hlit
 have HNB := hide hnb
 obtain ⟨A, c, rfl, h1, h2, h3⟩ := hv
 unfold maxLen at h2
 have HA := hide h3
 obtain ⟨n, HN⟩ : ∃ k, Hid (l.length = k) := ⟨_, hide rfl⟩
 obtain ⟨R, HR⟩ : ∃ t, Hid (findL l nm = t) := ⟨_, hide rfl⟩
 rw [HN.out] at h1 hn ⊢
 rw [HR.out]
 have HNL := hide (ent_len (w := w) (B := 0) (e := EntD.none_) (lr := .slice none 0 0) (lw := .slice none 0 0) ⟨EntD.none_wf, Bs.nil_ _ _, Bs.nil_ _ _⟩)
 have HSZ0 := hide (show (Tryd.prog.info? 45).map (·.size) = some (entC EntD.none_ (.slice none 0 0) (.slice none 0 0)).length by rw [HNL.out]; exact size_ent)
 have HON0 := hide (ent_ones (w := w) (B := 0) (e := EntD.none_) (lr := .slice none 0 0) (lw := .slice none 0 0) ⟨EntD.none_wf, Bs.nil_ _ _, Bs.nil_ _ _⟩)
 obtain ⟨g4, HG4⟩ : ∃ k, Hid (w.heap.size = k) := ⟨_, hide rfl⟩
 clear h3 hlit hnb
 go_enter Tryd.func26, Tryd.ntmps26
 go_wp2_with (first
  | (refine wpList_alloc_blk rfl 45 rfl _ zero_ent ?_; intro w1 hb1 hw1 hs1; rw [HG4.out] at hb1 hs1; try rw [HG4.out]; have H4 := hide hb1; have HW1 := hide hw1; have HS1 := hide hs1; clear hb1 hw1 hs1))
 obtain ⟨base, HBASE⟩ : ∃ k, Hid (w1.heap.size = k) := ⟨_, hide rfl⟩
 have hbw : w1.heap.size ≤ base ∧ base ≤ w1.heap.size := by have := HBASE.out; omega
 have hbase : w.heap.size ≤ base := by have := HBASE.out; have := HW1.out.size; omega
 have hg4b : g4 < base := by have := HBASE.out; have := HS1.out; omega
 have hwg4 : w.heap.size ≤ g4 ∧ g4 ≤ w.heap.size := by have := HG4.out; omega
 have HBe := hide (Below.refl base w1)
 go_loopw [10] (fun v10 wr => ∃ (i : Nat), v10 = .int .i64 (i : Int) ∧ i ≤ n ∧ findL (l.drop i) nm = R ∧ Below base w1 wr) (fun v10 _ => n - (intOf v10).toNat)
 case atStart => exact ⟨0, by go_num, by omega, HR.out, HBe.out⟩
 case round =>
  obtain ⟨i, rfl, hin, heq, hb⟩ := hrel
  have HEQ := hide heq
  have HB := hide hb
  have hzr : base ≤ wr.heap.size := Nat.le_trans hbw.2 hb.size
  replace H4 := hide (H4.out.below hb hg4b)
  clear heq hb HBe
  by_cases hlt : i < n
  · skip
    have hlt' : (i : Int) < (n : Int) := by omega
    obtain ⟨b, o, rfl, hbb, hca⟩ := HA.out (by rw [HN.out]; omega)
    obtain ⟨la, lb, hok, hrg⟩ := hca i (by rw [HN.out]; exact hlt)
    have HAT := hide (findL_at l nm i (by rw [HN.out]; exact hlt))
    have hli := HLIT.out _ (List.getElem_mem (show i < l.length by rw [HN.out]; exact hlt))
    obtain ⟨x, HX⟩ : ∃ x, Hid (l[i]'(by rw [HN.out]; exact hlt) = x) := ⟨_, hide rfl⟩
    rw [HX.out] at hok hrg HAT hli
    have HXOK := hide hok
    have HX1OK := hide (hok.below HW1.out (Nat.le_refl _))
    have HSZ := hide (show (Tryd.prog.info? 45).map (·.size) = some (entC x la lb).length by rw [ent_len hok]; exact size_ent)
    have HRG := hide (fun (j : Nat) (u : Value) (hu : (entC x la lb)[j]? = some u) => show _ = some u from ((HW1.out.trans (HB.out.mono hbase)).cell (p := ⟨b, o + i * 108 + j, none⟩) hbb).trans (hrg j u hu))
    have HXB := hide hok.nameB
    have HONES := hide (ent_ones hok)
    have HX0 := hide (show (entC x la lb)[0]? = some (.string (strOfNums x.name)) from ent_name)
    have HLI := hide hli
    clear hok hrg hca hli HX
    obtain ⟨g9, HG9⟩ : ∃ k, Hid (wr.heap.size = k) := ⟨_, hide rfl⟩
    have hg9 : base ≤ g9 ∧ g9 ≤ wr.heap.size := by have := HG9.out; omega
    obtain ⟨qn, HNQ⟩ : ∃ q, Hid (decide (x.name = nm) = q) := ⟨decide (x.name = nm), hide rfl⟩
    rcases qn with _ | _
    case false =>
     have hnm : ¬ x.name = nm := of_decide_eq_false HNQ.out
     have HNEXT := hide (show findL (l.drop (i + 1)) nm = R by rw [← HEQ.out, HAT.out, if_neg hnm])
     clear hnm
     go_wp2_with (first
      | go_skip
      | (refine wpList_val_ rfl (exec_loadAll 45 _ rfl b (o + i * 108) rfl _ (entC x la lb) HRG.out Tryd.underlying45 rfl HSZ.out) ?_)
      | (refine wpList_alloc_blk rfl 45 rfl _ zero_ent ?_; intro w5 hb5 hw5 hs5; rw [HG9.out] at hb5; try rw [HG9.out]; have H9 := hide hb5; replace H4 := hide (H4.out.below hw5 H4.out.lt); replace HB := hide (HB.out.trans (hw5.mono hzr)); have hz5 : base ≤ w5.heap.size := Nat.le_trans hzr hw5.size; clear hb5 hw5)
      | (refine wpList_st_putAll _ _ _ rfl rfl rfl H9.out (entC x la lb) rfl (by rw [ent_len HXOK.out, ent_len (w := w) (B := 0) ⟨EntD.none_wf, Bs.nil_ _ _, Bs.nil_ _ _⟩]) HSZ.out HONES.out ?_; intro wq hb6 hg6 hs6; replace H4 := hide (H4.out.grown hg6 (by intro e; injection e; omega)); replace H9 := hide hb6; replace HB := hide (HB.out.grown hg6 (by have := HB.out.size; omega) (by intro k hk; injection hk; omega)); clear hb6 hg6)
      | (refine wpList_st_get 9 _ rfl 0 rfl rfl H9.out _ Tryd.underlying9 rfl _ HX0.out ?_)
      | (refine wpList_st_all 45 _ rfl rfl rfl H9.out _ Tryd.underlying45 rfl HSZ.out ?_)
      | (refine wpList_val_ rfl (exec_eql_name _ _ _ rfl x.name nm rfl rfl HXB.out HNB.out _ HNQ.out) ?_))
     go_roundw
     case measure => simp [intOf]; omega
     case rel => exact ⟨i + 1, by go_num, by omega, HNEXT.out, HB.out⟩
    case true =>
     have hnm : x.name = nm := of_decide_eq_true HNQ.out
     have HF := hide (show R = some x by rw [← HEQ.out, HAT.out, if_pos hnm])
     clear hnm
     go_wp2_with (first
      | go_skip
      | (refine wpList_val_ rfl (exec_loadAll 45 _ rfl b (o + i * 108) rfl _ (entC x la lb) HRG.out Tryd.underlying45 rfl HSZ.out) ?_)
      | (refine wpList_alloc_blk rfl 45 rfl _ zero_ent ?_; intro w5 hb5 hw5 hs5; rw [HG9.out] at hb5; try rw [HG9.out]; have H9 := hide hb5; replace H4 := hide (H4.out.below hw5 H4.out.lt); replace HB := hide (HB.out.trans (hw5.mono hzr)); have hz5 : base ≤ w5.heap.size := Nat.le_trans hzr hw5.size; clear hb5 hw5)
      | (refine wpList_st_putAll _ _ _ rfl rfl rfl H9.out (entC x la lb) rfl (by rw [ent_len HXOK.out, ent_len (w := w) (B := 0) ⟨EntD.none_wf, Bs.nil_ _ _, Bs.nil_ _ _⟩]) HSZ.out HONES.out ?_; intro wq hb6 hg6 hs6; replace H4 := hide (H4.out.grown hg6 (by intro e; injection e; omega)); replace H9 := hide hb6; replace HB := hide (HB.out.grown hg6 (by have := HB.out.size; omega) (by intro k hk; injection hk; omega)); clear hb6 hg6)
      | (refine wpList_st_get 9 _ rfl 0 rfl rfl H9.out _ Tryd.underlying9 rfl _ HX0.out ?_)
      | (refine wpList_st_all 45 _ rfl rfl rfl H9.out _ Tryd.underlying45 rfl HSZ.out ?_)
      | (refine wpList_val_ rfl (exec_eql_name _ _ _ rfl x.name nm rfl rfl HXB.out HNB.out _ HNQ.out) ?_))
     have hzk : base ≤ _ := Nat.le_trans hbw.2 HB.out.size
     have HOKb := hide ((HX1OK.out.below HB.out hbase).more (Nat.le_trans hbase hzk))
     refine (fresh_any x la lb _ HOKb.out HLI.out.1 HLI.out.2).mono ?_
     rintro _ wb ⟨lrb, lwb, rfl, hrb, hwb, hbb2⟩
     replace H4 := hide (H4.out.below hbb2 H4.out.lt)
     replace HB := hide (HB.out.trans (hbb2.mono hzk))
     have hzl : base ≤ _ := Nat.le_trans hbw.2 HB.out.size
     have HRB := hide hrb
     have HWBB := hide hwb
     have HXL := hide (show LenE x ∧ LenW x from ⟨⟨HXOK.out.rWf.keyL, HXOK.out.rWf.fpL⟩, ⟨HXOK.out.wWf.keyL, HXOK.out.wWf.fpL⟩⟩)
     have HSZb := hide (show (Tryd.prog.info? 45).map (·.size) = some (entC x lrb lwb).length by rw [ent_lenL HXL.out.1 HXL.out.2]; exact size_ent)
     have HLb := hide (show (entC EntD.none_ (.slice none 0 0) (.slice none 0 0)).length = (entC x lrb lwb).length by rw [ent_lenL HXL.out.1 HXL.out.2, HNL.out])
     have HONb := hide (ent_oneL (e := x) (bs_one_ hrb.reads) (bs_one_ hwb.reads))
     clear hrb hwb hbb2
     go_wp2_with (first
      | go_skip
      | (refine wpList_st_putAll _ _ _ rfl rfl rfl H4.out (entC x lrb lwb) rfl HLb.out HSZb.out HONb.out ?_; intro wq2 hb7 hg7 hs7; replace HRB := hide (HRB.out.pastE H4.out (by kernel_rfl) hg7); replace HWBB := hide (HWBB.out.pastE H4.out (by kernel_rfl) hg7); replace H4 := hide hb7; have HWF := hide ((HW1.out.trans (HB.out.mono hbase)).grown hg7 (by have := HB.out.size; have := HW1.out.size; omega) (by intro k hk; injection hk; omega)); clear hb7 hg7)
      | (exact bodyPost_ret (results_st rfl _ _ g4 _ _ rfl H4.out _ Tryd.underlying45 rfl HSZb.out _ rfl) rfl (.inl ⟨x, lrb, lwb, HF.out, rfl, HRB.out.more (by have := HB.out.size; omega), HWBB.out.more (by have := HB.out.size; omega), HXOK.out.toWf, HWF.out⟩)))
  · obtain rfl : i = n := by omega
    have hlt' : ¬ (i : Int) < (i : Int) := by omega
    have HF := hide (show R = none by have := HEQ.out; rw [List.drop_eq_nil_of_le (by rw [HN.out]; exact Nat.le_refl _)] at this; rw [← this]; rfl)
    go_wp2_with (first
     | go_skip
     | (refine wpList_st_build _ _ rfl rfl _ built_ent0 ?_)
     | (refine wpList_st_putAll _ _ _ rfl rfl rfl H4.out (entC EntD.none_ (.slice none 0 0) (.slice none 0 0)) rfl rfl HSZ0.out HON0.out ?_; intro wq2 hb7 hg7 hs7; replace H4 := hide hb7; have HWF := hide ((HW1.out.trans (HB.out.mono hbase)).grown hg7 (by have := HB.out.size; have := HW1.out.size; omega) (by intro k hk; injection hk; omega)); clear hb7 hg7)
     | (exact bodyPost_ret (results_st rfl _ _ g4 _ _ rfl H4.out _ Tryd.underlying45 rfl HSZ0.out _ rfl) rfl (.inr ⟨HF.out, rfl, HWF.out⟩)))
end Go.Proofs.YthdjgebbjogmiaaDoor
