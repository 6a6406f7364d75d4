/- The document's SetEntry: an entry in its place. Condition: literals of at most a million bytes. -/
import Derived.Test.YthdjgebbjogmiaaDoorJoin24
import Derived.Test.YthdjgebbjogmiaaDoorDirRightR
set_option linter.unusedVariables false
set_option linter.unusedSimpArgs false
namespace Go.Proofs.YthdjgebbjogmiaaDoor
open Go Go.RowKit
set_option linter.unusedVariables false
set_option linter.unusedSimpArgs false
set_option maxRecDepth 100000
set_option maxHeartbeats 16000000
theorem dsetR_any (v : Value) (l : List EntD) (e : EntD) (lr lw : Value) (w : World) (hv : EntsB w w.heap.size v l) (he : EntOk w w.heap.size e lr lw) (hlit : ∀ e ∈ l, e.read.lit.length ≤ 1000000 ∧ e.write.lit.length ≤ 1000000) (hle : e.read.lit.length ≤ 1000000 ∧ e.write.lit.length ≤ 1000000) (hn : l.length ≤ 999000) :
 Calls Tryd.prog 20 #[v, .agg (entC e lr lw).toArray] w fun r w' => ∃ v', r = .returned (.tuple #[v', .int .i64 (setE l e)]) ∧ OwnEnts w' w.heap.size w.heap.size v' (setF l e) ∧ Below w.heap.size w w' := by
 have HLIT := hide hlit
 have HLE := hide hle
 have HV := hide hv
 have HOE := hide he
 have HEB := hide he.nameB
 have HEZ := hide (show (Tryd.prog.info? 45).map (·.size) = some (entC e lr lw).length by rw [ent_len he]; exact size_ent)
 obtain ⟨A, c, rfl, h1, h2, h3⟩ := hv
 unfold maxLen at h2
 have HA := hide h3
 obtain ⟨n, HN⟩ : ∃ k, Hid (l.length = k) := ⟨_, hide rfl⟩
 rw [HN.out] at h1 hn HV ⊢
 obtain ⟨tot, HTOT⟩ : ∃ t, Hid (insG e false l = t) := ⟨_, hide rfl⟩
 have HTL := hide (show tot.length ≤ 999001 by rw [← HTOT.out]; have := insG_length e false l; have := HN.out; simp at *; omega)
 have HTM := hide (show ∀ x ∈ tot, x.read.lit.length ≤ 1000000 ∧ x.write.lit.length ≤ 1000000 from fun x hx => by
  rw [← HTOT.out] at hx
  rcases insG_mem_ e false l x hx with rfl | hx
  · exact HLE.out
  · exact HLIT.out x hx)
 obtain ⟨rl, HRL⟩ : ∃ b, Hid (rightB l = b) := ⟨_, hide rfl⟩
 obtain ⟨rt, HRT⟩ : ∃ b, Hid (rightB tot = b) := ⟨_, hide rfl⟩
 have HSF := hide (show setF l e = (if rl && rt then tot else []) ∧ setE l e = (if rl && rt then 0 else 1) by unfold setF setE setB; rw [HTOT.out, HRL.out, HRT.out]; exact ⟨rfl, rfl⟩)
 rw [HSF.out.1, HSF.out.2]
 have HE0 := hide (show (entC e lr lw)[0]? = some (.string (strOfNums e.name)) from ent_name)
 obtain ⟨g3, HG3⟩ : ∃ k, Hid (w.heap.size = k) := ⟨_, hide rfl⟩
 clear h3 hlit he hle
 go_enter Tryd.func20, Tryd.ntmps20
 go_wp2_with (first
  | (refine wpList_st_box _ rfl (entC e lr lw) rfl rfl ?_; intro w0 hb0 hw0 hs0; rw [HG3.out] at hb0 hs0; try rw [HG3.out]; have H3 := hide hb0; have HW0 := hide hw0; have HS0 := hide hs0; clear hb0 hw0 hs0))
 refine (drightR_any (.slice A n c) l _ ((HV.out.below HW0.out (Nat.le_refl _)).more HW0.out.size) HLIT.out (by rw [HN.out]; omega)).mono ?_
 rintro _ w1 ⟨rfl, hb1⟩
 rw [HRL.out]
 replace H3 := hide (H3.out.below hb1 H3.out.lt)
 have HW1 := hide (HW0.out.trans (hb1.mono HW0.out.size))
 have hz1 := hb1.size
 clear hb1
 rcases rl with _ | _
 case false =>
  go_wp2_with fail
  go_ret2
  exact ⟨_, rfl, OwnEnts.nil_ _ (Nat.le_refl _), HW1.out⟩
 obtain ⟨base, HBASE⟩ : ∃ k, Hid (w1.heap.size = k) := ⟨_, hide rfl⟩
 have hbw : w1.heap.size ≤ base ∧ base ≤ w1.heap.size := by have := HBASE.out; omega
 have hbase : w.heap.size ≤ base := by have := HBASE.out; have := HW1.out.size; omega
 have hg3b : g3 < base := by have := HBASE.out; have := HS0.out; omega
 have HBe := hide (Below.refl base w1)
 clear hz1
 go_wp2_with fail
 go_loopw [6, 7, 14] (fun v6 v7 v14 wr => ∃ (i : Nat) (out : List EntD) (put : Bool), v14 = .int .i64 (i : Int) ∧ v7 = .bool put ∧ i ≤ n ∧ OwnEnts wr base w.heap.size v6 out ∧ out ++ insG e put (l.drop i) = tot ∧ Below base w1 wr) (fun _ _ v14 _ => n - (intOf v14).toNat)
 case atStart => exact ⟨0, [], false, by go_num, rfl, by omega, OwnEnts.nil_ _ hbase, HTOT.out, HBe.out⟩
 case round =>
  obtain ⟨i, out, put, rfl, rfl, hin, how, heq, hb⟩ := hrel
  have HOWN := hide how
  have HEQ := hide heq
  have HB := hide hb
  have HOL := hide (show out.length ≤ 1000000 by have := HTL.out; rw [← HEQ.out, List.length_append] at this; omega)
  have HOL1 := hide (show out.length ≤ 999001 by have := HTL.out; rw [← HEQ.out, List.length_append] at this; omega)
  replace H3 := hide (H3.out.below hb hg3b)
  clear how heq hb HBe
  by_cases hlt : i < n
  · have hlt' : (i : Int) < (n : Int) := by omega
    obtain ⟨b, o, rfl, hbb, hca⟩ := HA.out (by rw [HN.out]; omega)
    obtain ⟨la, lb, hok, hrg⟩ := hca i (by rw [HN.out]; exact hlt)
    have HAT := hide (insG_at e l put i (by rw [HN.out]; exact hlt))
    have hli := HLIT.out _ (List.getElem_mem (show i < l.length by rw [HN.out]; exact hlt))
    obtain ⟨x, HX⟩ : ∃ x, Hid (l[i]'(by rw [HN.out]; exact hlt) = x) := ⟨_, hide rfl⟩
    rw [HX.out] at hok hrg HAT hli
    have HXOK := hide hok
    have HSZ := hide (show (Tryd.prog.info? 45).map (·.size) = some (entC x la lb).length by rw [ent_len hok]; exact size_ent)
    have HRGw := hide hrg
    have HXB := hide hok.nameB
    have HONES := hide (ent_ones hok)
    have HX0 := hide (show (entC x la lb)[0]? = some (.string (strOfNums x.name)) from ent_name)
    have HLI := hide hli
    clear hok hrg hca hli HX
    obtain ⟨qg, HGE⟩ : ∃ q, Hid (ltL x.name e.name = !q) := ⟨!(ltL x.name e.name), hide (by rw [Bool.not_not])⟩
    obtain ⟨qn, HNQ⟩ : ∃ q, Hid (decide (x.name = e.name) = !q) := ⟨!(decide (x.name = e.name)), hide (by rw [Bool.not_not])⟩
    have HLT := HGE
    rcases put with _ | _
    case true =>
     rcases qn with _ | _
     case false =>
      have hnm : x.name = e.name := of_decide_eq_true HNQ.out
      have HNEXT := hide (show (out) ++ insG e true (l.drop (i + 1)) = tot by rw [← HEQ.out, HAT.out, HLT.out]; simp [hnm])
      clear hnm
      go_upto_region 8 with fail
      try simp only [Act.put, s1_, s2_, s3_]
      have hzr : base ≤ wr.heap.size := Nat.le_trans hbw.2 HB.out.size
      have hbW : b < wr.heap.size := Nat.lt_of_lt_of_le hbb (Nat.le_trans hbase hzr)
      have hg3W : g3 < wr.heap.size := H3.out.lt
      have HNX := hide (show wr.cell? ⟨b, o + i * 108, none⟩ = some (.string (strOfNums x.name)) from ((HW1.out.trans (HB.out.mono hbase)).cell (p := ⟨b, o + i * 108, none⟩) hbb).trans (by have := HRGw.out 0 _ HX0.out; rwa [Nat.add_zero] at this))
      have HNE := hide (show wr.cell? ⟨g3, 0, none⟩ = some (.string (strOfNums e.name)) by rw [H3.out.cell]; exact HE0.out)
      refine wp_region_qw (Below wr.heap.size wr) (by kernel_rfl) (by kernel_rfl) (Below.refl _ _).drew ?_
      refine qw_val (v := .bool true) 17 rfl (by kernel_rfl) (fun w' hS => exec_move _ rfl (.bool true) rfl) ?_
      simp only [Act.put, s1_, s2_, s3_]
      refine qw_val (v := .bool false) 18 rfl (by kernel_rfl) (fun w' hS => exec_notG _ _ rfl true rfl _ rfl) ?_
      simp only [Act.put, s1_, s2_, s3_]
      refine qw_val (v := .bool false) 19 rfl (by kernel_rfl) (fun w' hS => exec_move _ rfl (.bool false) rfl) ?_
      simp only [Act.put, s1_, s2_, s3_]
      refine qw_skip 20 rfl (by kernel_rfl) ?_
      simp only [Act.put, s1_, s2_, s3_]
      refine qw_skip 21 rfl (by kernel_rfl) ?_
      simp only [Act.put, s1_, s2_, s3_]
      refine qw_skip 22 rfl (by kernel_rfl) ?_
      simp only [Act.put, s1_, s2_, s3_]
      refine qw_skip 23 rfl (by kernel_rfl) ?_
      simp only [Act.put, s1_, s2_, s3_]
      refine qw_skip 24 rfl (by kernel_rfl) ?_
      simp only [Act.put, s1_, s2_, s3_]
      refine qw_skip 25 rfl (by kernel_rfl) ?_
      simp only [Act.put, s1_, s2_, s3_]
      refine qw_skip 26 rfl (by kernel_rfl) ?_
      simp only [Act.put, s1_, s2_, s3_]
      refine qw_skip 27 rfl (by kernel_rfl) ?_
      simp only [Act.put, s1_, s2_, s3_]
      refine qw_val (v := .bool false) 28 rfl (by kernel_rfl) (fun w' hS => exec_pickG _ _ _ rfl false rfl _ rfl) ?_
      simp only [Act.put, s1_, s2_, s3_]
      refine qw_nil ?_
      intro w8 hSw8
      replace H3 := hide (H3.out.below hSw8 H3.out.lt)
      replace HOWN := hide (HOWN.out.keptB hSw8 hzr)
      replace HB := hide (HB.out.trans (hSw8.mono hzr))
      clear hSw8 HNX HNE
      go_upto_region 11 with fail
      try simp only [Act.put, s1_, s2_, s3_]
      have hzr2 : base ≤ w8.heap.size := Nat.le_trans hbw.2 HB.out.size
      have hbW : b < w8.heap.size := Nat.lt_of_lt_of_le hbb (Nat.le_trans hbase hzr2)
      have hg3W : g3 < w8.heap.size := H3.out.lt
      have HNX := hide (show w8.cell? ⟨b, o + i * 108, none⟩ = some (.string (strOfNums x.name)) from ((HW1.out.trans (HB.out.mono hbase)).cell (p := ⟨b, o + i * 108, none⟩) hbb).trans (by have := HRGw.out 0 _ HX0.out; rwa [Nat.add_zero] at this))
      have HNE := hide (show w8.cell? ⟨g3, 0, none⟩ = some (.string (strOfNums e.name)) by rw [H3.out.cell]; exact HE0.out)
      refine wp_region_qw (Below w8.heap.size w8) (by kernel_rfl) (by kernel_rfl) (Below.refl _ _).drew ?_
      refine qw_val (v := .slice (some ⟨b, o, none⟩) n c) 33 rfl (by kernel_rfl) (fun w' hS => exec_move _ rfl (.slice (some ⟨b, o, none⟩) n c) rfl) ?_
      simp only [Act.put, s1_, s2_, s3_]
      refine qw_val (v := .int .i64 ((i : Int))) 34 rfl (by kernel_rfl) (fun w' hS => exec_move _ rfl (.int .i64 ((i : Int))) rfl) ?_
      simp only [Act.put, s1_, s2_, s3_]
      refine qw_val (v := .pointer (some ⟨b, o + i * 108, none⟩)) 35 rfl (by kernel_rfl) (fun w' hS => exec_indexG _ _ _ rfl _ n c b o 108 i rfl rfl rfl (by omega) (by kernel_rfl) _ (by omega)) ?_
      simp only [Act.put, s1_, s2_, s3_]
      refine qw_val (v := .pointer (some ⟨b, o + i * 108, none⟩)) 36 rfl (by kernel_rfl) (fun w' hS => exec_fieldG _ _ 0 0 rfl b (o + i * 108) rfl (by kernel_rfl) _ (by first | rfl | omega)) ?_
      simp only [Act.put, s1_, s2_, s3_]
      refine qw_val (v := .string (strOfNums x.name)) 37 rfl (by kernel_rfl) (fun w' hS => exec_load_one _ _ rfl b (o + i * 108) rfl _ Tryd.underlying9 rfl _ ((hS.cell (p := ⟨b, o + i * 108, none⟩) hbW).trans HNX.out)) ?_
      simp only [Act.put, s1_, s2_, s3_]
      refine qw_val (v := .pointer (some ⟨g3, 0, none⟩)) 38 rfl (by kernel_rfl) (fun w' hS => exec_fieldG _ _ 0 0 rfl g3 0 rfl (by kernel_rfl) _ (by first | rfl | omega)) ?_
      simp only [Act.put, s1_, s2_, s3_]
      refine qw_val (v := .string (strOfNums e.name)) 39 rfl (by kernel_rfl) (fun w' hS => exec_load_one _ _ rfl g3 0 rfl _ Tryd.underlying9 rfl _ ((hS.cell (p := ⟨g3, 0, none⟩) hg3W).trans HNE.out)) ?_
      simp only [Act.put, s1_, s2_, s3_]
      refine qw_val (v := .bool false) 40 rfl (by kernel_rfl) (fun w' hS => exec_neq_name _ _ _ rfl x.name e.name rfl rfl HXB.out HEB.out _ HNQ.out) ?_
      simp only [Act.put, s1_, s2_, s3_]
      refine qw_nil ?_
      intro w11 hSw11
      replace H3 := hide (H3.out.below hSw11 H3.out.lt)
      replace HOWN := hide (HOWN.out.keptB hSw11 hzr2)
      replace HB := hide (HB.out.trans (hSw11.mono hzr2))
      clear hSw11 HNX HNE
      go_wp2_with fail
      go_roundw
      case measure => simp [intOf]; omega
      case rel => exact ⟨i + 1, out, true, by go_num, rfl, by omega, HOWN.out, HNEXT.out, HB.out⟩
     case true =>
      have hnm : ¬ x.name = e.name := of_decide_eq_false HNQ.out
      have HNEXT := hide (show (out ++ [x]) ++ insG e true (l.drop (i + 1)) = tot by rw [← HEQ.out, HAT.out, HLT.out]; simp [hnm])
      clear hnm
      go_upto_region 8 with fail
      try simp only [Act.put, s1_, s2_, s3_]
      have hzr : base ≤ wr.heap.size := Nat.le_trans hbw.2 HB.out.size
      have hbW : b < wr.heap.size := Nat.lt_of_lt_of_le hbb (Nat.le_trans hbase hzr)
      have hg3W : g3 < wr.heap.size := H3.out.lt
      have HNX := hide (show wr.cell? ⟨b, o + i * 108, none⟩ = some (.string (strOfNums x.name)) from ((HW1.out.trans (HB.out.mono hbase)).cell (p := ⟨b, o + i * 108, none⟩) hbb).trans (by have := HRGw.out 0 _ HX0.out; rwa [Nat.add_zero] at this))
      have HNE := hide (show wr.cell? ⟨g3, 0, none⟩ = some (.string (strOfNums e.name)) by rw [H3.out.cell]; exact HE0.out)
      refine wp_region_qw (Below wr.heap.size wr) (by kernel_rfl) (by kernel_rfl) (Below.refl _ _).drew ?_
      refine qw_val (v := .bool true) 17 rfl (by kernel_rfl) (fun w' hS => exec_move _ rfl (.bool true) rfl) ?_
      simp only [Act.put, s1_, s2_, s3_]
      refine qw_val (v := .bool false) 18 rfl (by kernel_rfl) (fun w' hS => exec_notG _ _ rfl true rfl _ rfl) ?_
      simp only [Act.put, s1_, s2_, s3_]
      refine qw_val (v := .bool false) 19 rfl (by kernel_rfl) (fun w' hS => exec_move _ rfl (.bool false) rfl) ?_
      simp only [Act.put, s1_, s2_, s3_]
      refine qw_skip 20 rfl (by kernel_rfl) ?_
      simp only [Act.put, s1_, s2_, s3_]
      refine qw_skip 21 rfl (by kernel_rfl) ?_
      simp only [Act.put, s1_, s2_, s3_]
      refine qw_skip 22 rfl (by kernel_rfl) ?_
      simp only [Act.put, s1_, s2_, s3_]
      refine qw_skip 23 rfl (by kernel_rfl) ?_
      simp only [Act.put, s1_, s2_, s3_]
      refine qw_skip 24 rfl (by kernel_rfl) ?_
      simp only [Act.put, s1_, s2_, s3_]
      refine qw_skip 25 rfl (by kernel_rfl) ?_
      simp only [Act.put, s1_, s2_, s3_]
      refine qw_skip 26 rfl (by kernel_rfl) ?_
      simp only [Act.put, s1_, s2_, s3_]
      refine qw_skip 27 rfl (by kernel_rfl) ?_
      simp only [Act.put, s1_, s2_, s3_]
      refine qw_val (v := .bool false) 28 rfl (by kernel_rfl) (fun w' hS => exec_pickG _ _ _ rfl false rfl _ rfl) ?_
      simp only [Act.put, s1_, s2_, s3_]
      refine qw_nil ?_
      intro w8 hSw8
      replace H3 := hide (H3.out.below hSw8 H3.out.lt)
      replace HOWN := hide (HOWN.out.keptB hSw8 hzr)
      replace HB := hide (HB.out.trans (hSw8.mono hzr))
      clear hSw8 HNX HNE
      go_upto_region 11 with fail
      try simp only [Act.put, s1_, s2_, s3_]
      have hzr2 : base ≤ w8.heap.size := Nat.le_trans hbw.2 HB.out.size
      have hbW : b < w8.heap.size := Nat.lt_of_lt_of_le hbb (Nat.le_trans hbase hzr2)
      have hg3W : g3 < w8.heap.size := H3.out.lt
      have HNX := hide (show w8.cell? ⟨b, o + i * 108, none⟩ = some (.string (strOfNums x.name)) from ((HW1.out.trans (HB.out.mono hbase)).cell (p := ⟨b, o + i * 108, none⟩) hbb).trans (by have := HRGw.out 0 _ HX0.out; rwa [Nat.add_zero] at this))
      have HNE := hide (show w8.cell? ⟨g3, 0, none⟩ = some (.string (strOfNums e.name)) by rw [H3.out.cell]; exact HE0.out)
      refine wp_region_qw (Below w8.heap.size w8) (by kernel_rfl) (by kernel_rfl) (Below.refl _ _).drew ?_
      refine qw_val (v := .slice (some ⟨b, o, none⟩) n c) 33 rfl (by kernel_rfl) (fun w' hS => exec_move _ rfl (.slice (some ⟨b, o, none⟩) n c) rfl) ?_
      simp only [Act.put, s1_, s2_, s3_]
      refine qw_val (v := .int .i64 ((i : Int))) 34 rfl (by kernel_rfl) (fun w' hS => exec_move _ rfl (.int .i64 ((i : Int))) rfl) ?_
      simp only [Act.put, s1_, s2_, s3_]
      refine qw_val (v := .pointer (some ⟨b, o + i * 108, none⟩)) 35 rfl (by kernel_rfl) (fun w' hS => exec_indexG _ _ _ rfl _ n c b o 108 i rfl rfl rfl (by omega) (by kernel_rfl) _ (by omega)) ?_
      simp only [Act.put, s1_, s2_, s3_]
      refine qw_val (v := .pointer (some ⟨b, o + i * 108, none⟩)) 36 rfl (by kernel_rfl) (fun w' hS => exec_fieldG _ _ 0 0 rfl b (o + i * 108) rfl (by kernel_rfl) _ (by first | rfl | omega)) ?_
      simp only [Act.put, s1_, s2_, s3_]
      refine qw_val (v := .string (strOfNums x.name)) 37 rfl (by kernel_rfl) (fun w' hS => exec_load_one _ _ rfl b (o + i * 108) rfl _ Tryd.underlying9 rfl _ ((hS.cell (p := ⟨b, o + i * 108, none⟩) hbW).trans HNX.out)) ?_
      simp only [Act.put, s1_, s2_, s3_]
      refine qw_val (v := .pointer (some ⟨g3, 0, none⟩)) 38 rfl (by kernel_rfl) (fun w' hS => exec_fieldG _ _ 0 0 rfl g3 0 rfl (by kernel_rfl) _ (by first | rfl | omega)) ?_
      simp only [Act.put, s1_, s2_, s3_]
      refine qw_val (v := .string (strOfNums e.name)) 39 rfl (by kernel_rfl) (fun w' hS => exec_load_one _ _ rfl g3 0 rfl _ Tryd.underlying9 rfl _ ((hS.cell (p := ⟨g3, 0, none⟩) hg3W).trans HNE.out)) ?_
      simp only [Act.put, s1_, s2_, s3_]
      refine qw_val (v := .bool true) 40 rfl (by kernel_rfl) (fun w' hS => exec_neq_name _ _ _ rfl x.name e.name rfl rfl HXB.out HEB.out _ HNQ.out) ?_
      simp only [Act.put, s1_, s2_, s3_]
      refine qw_nil ?_
      intro w11 hSw11
      replace H3 := hide (H3.out.below hSw11 H3.out.lt)
      replace HOWN := hide (HOWN.out.keptB hSw11 hzr2)
      replace HB := hide (HB.out.trans (hSw11.mono hzr2))
      clear hSw11 HNX HNE
      have hzk2 : base ≤ w11.heap.size := Nat.le_trans hbw.2 HB.out.size
      have HYx := hide (show (EntL.mk x la lb).Ok w11 w.heap.size from ⟨HXOK.out.toWf, .inl (HXOK.out.r1.below (HW1.out.trans (HB.out.mono hbase)) (Nat.le_refl _)), .inl (HXOK.out.w1.below (HW1.out.trans (HB.out.mono hbase)) (Nat.le_refl _))⟩)
      have HRG := hide (fun (j : Nat) (u : Value) (hu : (entC x la lb)[j]? = some u) => show _ = some u from ((HW1.out.trans (HB.out.mono hbase)).cell (p := ⟨b, o + i * 108 + j, none⟩) hbb).trans (HRGw.out j u hu))
      go_wp2_with (first
       | go_skip
       | (refine wpList_val_ rfl (exec_loadAll 45 _ rfl b (o + i * 108) rfl _ (entC x la lb) HRG.out Tryd.underlying45 rfl HSZ.out) ?_)
       | (refine wpList_lit_ent rfl _ rfl (EntL.mk x la lb) HYx.out.wf rfl ?_)
       | (at_builtin; refine wpList_append_ent rfl _ _ rfl base w.heap.size u6 out rfl HOWN.out hzk2 HOL.out (EntL.mk x la lb) HYx.out rfl ?_; intro v6b w6b hob hpb hkb; replace HOWN := hide hob; replace HB := hide (HB.out.trans hpb); clear hob hpb hkb))
      go_roundw
      case measure => simp [intOf]; omega
      case rel => exact ⟨i + 1, out ++ [x], true, by go_num, rfl, by omega, HOWN.out, HNEXT.out, HB.out⟩
    rcases qg with _ | _
    case false =>
     rcases qn with _ | _
     case false =>
      have hnm : x.name = e.name := of_decide_eq_true HNQ.out
      have HNEXT := hide (show (out) ++ insG e false (l.drop (i + 1)) = tot by rw [← HEQ.out, HAT.out, HLT.out]; simp [hnm])
      clear hnm
      go_upto_region 8 with fail
      try simp only [Act.put, s1_, s2_, s3_]
      have hzr : base ≤ wr.heap.size := Nat.le_trans hbw.2 HB.out.size
      have hbW : b < wr.heap.size := Nat.lt_of_lt_of_le hbb (Nat.le_trans hbase hzr)
      have hg3W : g3 < wr.heap.size := H3.out.lt
      have HNX := hide (show wr.cell? ⟨b, o + i * 108, none⟩ = some (.string (strOfNums x.name)) from ((HW1.out.trans (HB.out.mono hbase)).cell (p := ⟨b, o + i * 108, none⟩) hbb).trans (by have := HRGw.out 0 _ HX0.out; rwa [Nat.add_zero] at this))
      have HNE := hide (show wr.cell? ⟨g3, 0, none⟩ = some (.string (strOfNums e.name)) by rw [H3.out.cell]; exact HE0.out)
      refine wp_region_qw (Below wr.heap.size wr) (by kernel_rfl) (by kernel_rfl) (Below.refl _ _).drew ?_
      refine qw_val (v := .bool false) 17 rfl (by kernel_rfl) (fun w' hS => exec_move _ rfl (.bool false) rfl) ?_
      simp only [Act.put, s1_, s2_, s3_]
      refine qw_val (v := .bool true) 18 rfl (by kernel_rfl) (fun w' hS => exec_notG _ _ rfl false rfl _ rfl) ?_
      simp only [Act.put, s1_, s2_, s3_]
      refine qw_val (v := .bool true) 19 rfl (by kernel_rfl) (fun w' hS => exec_move _ rfl (.bool true) rfl) ?_
      simp only [Act.put, s1_, s2_, s3_]
      refine qw_val (v := .slice (some ⟨b, o, none⟩) n c) 20 rfl (by kernel_rfl) (fun w' hS => exec_move _ rfl (.slice (some ⟨b, o, none⟩) n c) rfl) ?_
      simp only [Act.put, s1_, s2_, s3_]
      refine qw_val (v := .int .i64 ((i : Int))) 21 rfl (by kernel_rfl) (fun w' hS => exec_move _ rfl (.int .i64 ((i : Int))) rfl) ?_
      simp only [Act.put, s1_, s2_, s3_]
      refine qw_val (v := .pointer (some ⟨b, o + i * 108, none⟩)) 22 rfl (by kernel_rfl) (fun w' hS => exec_indexG _ _ _ rfl _ n c b o 108 i rfl rfl rfl (by omega) (by kernel_rfl) _ (by omega)) ?_
      simp only [Act.put, s1_, s2_, s3_]
      refine qw_val (v := .pointer (some ⟨b, o + i * 108, none⟩)) 23 rfl (by kernel_rfl) (fun w' hS => exec_fieldG _ _ 0 0 rfl b (o + i * 108) rfl (by kernel_rfl) _ (by first | rfl | omega)) ?_
      simp only [Act.put, s1_, s2_, s3_]
      refine qw_val (v := .string (strOfNums x.name)) 24 rfl (by kernel_rfl) (fun w' hS => exec_load_one _ _ rfl b (o + i * 108) rfl _ Tryd.underlying9 rfl _ ((hS.cell (p := ⟨b, o + i * 108, none⟩) hbW).trans HNX.out)) ?_
      simp only [Act.put, s1_, s2_, s3_]
      refine qw_val (v := .pointer (some ⟨g3, 0, none⟩)) 25 rfl (by kernel_rfl) (fun w' hS => exec_fieldG _ _ 0 0 rfl g3 0 rfl (by kernel_rfl) _ (by first | rfl | omega)) ?_
      simp only [Act.put, s1_, s2_, s3_]
      refine qw_val (v := .string (strOfNums e.name)) 26 rfl (by kernel_rfl) (fun w' hS => exec_load_one _ _ rfl g3 0 rfl _ Tryd.underlying9 rfl _ ((hS.cell (p := ⟨g3, 0, none⟩) hg3W).trans HNE.out)) ?_
      simp only [Act.put, s1_, s2_, s3_]
      refine qw_val (v := .bool false) 27 rfl (by kernel_rfl) (fun w' hS => exec_geq_name _ _ _ rfl x.name e.name rfl rfl HXB.out HEB.out _ HGE.out) ?_
      simp only [Act.put, s1_, s2_, s3_]
      refine qw_val (v := .bool false) 28 rfl (by kernel_rfl) (fun w' hS => exec_pickG _ _ _ rfl true rfl _ rfl) ?_
      simp only [Act.put, s1_, s2_, s3_]
      refine qw_nil ?_
      intro w8 hSw8
      replace H3 := hide (H3.out.below hSw8 H3.out.lt)
      replace HOWN := hide (HOWN.out.keptB hSw8 hzr)
      replace HB := hide (HB.out.trans (hSw8.mono hzr))
      clear hSw8 HNX HNE
      go_upto_region 11 with fail
      try simp only [Act.put, s1_, s2_, s3_]
      have hzr2 : base ≤ w8.heap.size := Nat.le_trans hbw.2 HB.out.size
      have hbW : b < w8.heap.size := Nat.lt_of_lt_of_le hbb (Nat.le_trans hbase hzr2)
      have hg3W : g3 < w8.heap.size := H3.out.lt
      have HNX := hide (show w8.cell? ⟨b, o + i * 108, none⟩ = some (.string (strOfNums x.name)) from ((HW1.out.trans (HB.out.mono hbase)).cell (p := ⟨b, o + i * 108, none⟩) hbb).trans (by have := HRGw.out 0 _ HX0.out; rwa [Nat.add_zero] at this))
      have HNE := hide (show w8.cell? ⟨g3, 0, none⟩ = some (.string (strOfNums e.name)) by rw [H3.out.cell]; exact HE0.out)
      refine wp_region_qw (Below w8.heap.size w8) (by kernel_rfl) (by kernel_rfl) (Below.refl _ _).drew ?_
      refine qw_val (v := .slice (some ⟨b, o, none⟩) n c) 33 rfl (by kernel_rfl) (fun w' hS => exec_move _ rfl (.slice (some ⟨b, o, none⟩) n c) rfl) ?_
      simp only [Act.put, s1_, s2_, s3_]
      refine qw_val (v := .int .i64 ((i : Int))) 34 rfl (by kernel_rfl) (fun w' hS => exec_move _ rfl (.int .i64 ((i : Int))) rfl) ?_
      simp only [Act.put, s1_, s2_, s3_]
      refine qw_val (v := .pointer (some ⟨b, o + i * 108, none⟩)) 35 rfl (by kernel_rfl) (fun w' hS => exec_indexG _ _ _ rfl _ n c b o 108 i rfl rfl rfl (by omega) (by kernel_rfl) _ (by omega)) ?_
      simp only [Act.put, s1_, s2_, s3_]
      refine qw_val (v := .pointer (some ⟨b, o + i * 108, none⟩)) 36 rfl (by kernel_rfl) (fun w' hS => exec_fieldG _ _ 0 0 rfl b (o + i * 108) rfl (by kernel_rfl) _ (by first | rfl | omega)) ?_
      simp only [Act.put, s1_, s2_, s3_]
      refine qw_val (v := .string (strOfNums x.name)) 37 rfl (by kernel_rfl) (fun w' hS => exec_load_one _ _ rfl b (o + i * 108) rfl _ Tryd.underlying9 rfl _ ((hS.cell (p := ⟨b, o + i * 108, none⟩) hbW).trans HNX.out)) ?_
      simp only [Act.put, s1_, s2_, s3_]
      refine qw_val (v := .pointer (some ⟨g3, 0, none⟩)) 38 rfl (by kernel_rfl) (fun w' hS => exec_fieldG _ _ 0 0 rfl g3 0 rfl (by kernel_rfl) _ (by first | rfl | omega)) ?_
      simp only [Act.put, s1_, s2_, s3_]
      refine qw_val (v := .string (strOfNums e.name)) 39 rfl (by kernel_rfl) (fun w' hS => exec_load_one _ _ rfl g3 0 rfl _ Tryd.underlying9 rfl _ ((hS.cell (p := ⟨g3, 0, none⟩) hg3W).trans HNE.out)) ?_
      simp only [Act.put, s1_, s2_, s3_]
      refine qw_val (v := .bool false) 40 rfl (by kernel_rfl) (fun w' hS => exec_neq_name _ _ _ rfl x.name e.name rfl rfl HXB.out HEB.out _ HNQ.out) ?_
      simp only [Act.put, s1_, s2_, s3_]
      refine qw_nil ?_
      intro w11 hSw11
      replace H3 := hide (H3.out.below hSw11 H3.out.lt)
      replace HOWN := hide (HOWN.out.keptB hSw11 hzr2)
      replace HB := hide (HB.out.trans (hSw11.mono hzr2))
      clear hSw11 HNX HNE
      go_wp2_with fail
      go_roundw
      case measure => simp [intOf]; omega
      case rel => exact ⟨i + 1, out, false, by go_num, rfl, by omega, HOWN.out, HNEXT.out, HB.out⟩
     case true =>
      have hnm : ¬ x.name = e.name := of_decide_eq_false HNQ.out
      have HNEXT := hide (show (out ++ [x]) ++ insG e false (l.drop (i + 1)) = tot by rw [← HEQ.out, HAT.out, HLT.out]; simp [hnm])
      clear hnm
      go_upto_region 8 with fail
      try simp only [Act.put, s1_, s2_, s3_]
      have hzr : base ≤ wr.heap.size := Nat.le_trans hbw.2 HB.out.size
      have hbW : b < wr.heap.size := Nat.lt_of_lt_of_le hbb (Nat.le_trans hbase hzr)
      have hg3W : g3 < wr.heap.size := H3.out.lt
      have HNX := hide (show wr.cell? ⟨b, o + i * 108, none⟩ = some (.string (strOfNums x.name)) from ((HW1.out.trans (HB.out.mono hbase)).cell (p := ⟨b, o + i * 108, none⟩) hbb).trans (by have := HRGw.out 0 _ HX0.out; rwa [Nat.add_zero] at this))
      have HNE := hide (show wr.cell? ⟨g3, 0, none⟩ = some (.string (strOfNums e.name)) by rw [H3.out.cell]; exact HE0.out)
      refine wp_region_qw (Below wr.heap.size wr) (by kernel_rfl) (by kernel_rfl) (Below.refl _ _).drew ?_
      refine qw_val (v := .bool false) 17 rfl (by kernel_rfl) (fun w' hS => exec_move _ rfl (.bool false) rfl) ?_
      simp only [Act.put, s1_, s2_, s3_]
      refine qw_val (v := .bool true) 18 rfl (by kernel_rfl) (fun w' hS => exec_notG _ _ rfl false rfl _ rfl) ?_
      simp only [Act.put, s1_, s2_, s3_]
      refine qw_val (v := .bool true) 19 rfl (by kernel_rfl) (fun w' hS => exec_move _ rfl (.bool true) rfl) ?_
      simp only [Act.put, s1_, s2_, s3_]
      refine qw_val (v := .slice (some ⟨b, o, none⟩) n c) 20 rfl (by kernel_rfl) (fun w' hS => exec_move _ rfl (.slice (some ⟨b, o, none⟩) n c) rfl) ?_
      simp only [Act.put, s1_, s2_, s3_]
      refine qw_val (v := .int .i64 ((i : Int))) 21 rfl (by kernel_rfl) (fun w' hS => exec_move _ rfl (.int .i64 ((i : Int))) rfl) ?_
      simp only [Act.put, s1_, s2_, s3_]
      refine qw_val (v := .pointer (some ⟨b, o + i * 108, none⟩)) 22 rfl (by kernel_rfl) (fun w' hS => exec_indexG _ _ _ rfl _ n c b o 108 i rfl rfl rfl (by omega) (by kernel_rfl) _ (by omega)) ?_
      simp only [Act.put, s1_, s2_, s3_]
      refine qw_val (v := .pointer (some ⟨b, o + i * 108, none⟩)) 23 rfl (by kernel_rfl) (fun w' hS => exec_fieldG _ _ 0 0 rfl b (o + i * 108) rfl (by kernel_rfl) _ (by first | rfl | omega)) ?_
      simp only [Act.put, s1_, s2_, s3_]
      refine qw_val (v := .string (strOfNums x.name)) 24 rfl (by kernel_rfl) (fun w' hS => exec_load_one _ _ rfl b (o + i * 108) rfl _ Tryd.underlying9 rfl _ ((hS.cell (p := ⟨b, o + i * 108, none⟩) hbW).trans HNX.out)) ?_
      simp only [Act.put, s1_, s2_, s3_]
      refine qw_val (v := .pointer (some ⟨g3, 0, none⟩)) 25 rfl (by kernel_rfl) (fun w' hS => exec_fieldG _ _ 0 0 rfl g3 0 rfl (by kernel_rfl) _ (by first | rfl | omega)) ?_
      simp only [Act.put, s1_, s2_, s3_]
      refine qw_val (v := .string (strOfNums e.name)) 26 rfl (by kernel_rfl) (fun w' hS => exec_load_one _ _ rfl g3 0 rfl _ Tryd.underlying9 rfl _ ((hS.cell (p := ⟨g3, 0, none⟩) hg3W).trans HNE.out)) ?_
      simp only [Act.put, s1_, s2_, s3_]
      refine qw_val (v := .bool false) 27 rfl (by kernel_rfl) (fun w' hS => exec_geq_name _ _ _ rfl x.name e.name rfl rfl HXB.out HEB.out _ HGE.out) ?_
      simp only [Act.put, s1_, s2_, s3_]
      refine qw_val (v := .bool false) 28 rfl (by kernel_rfl) (fun w' hS => exec_pickG _ _ _ rfl true rfl _ rfl) ?_
      simp only [Act.put, s1_, s2_, s3_]
      refine qw_nil ?_
      intro w8 hSw8
      replace H3 := hide (H3.out.below hSw8 H3.out.lt)
      replace HOWN := hide (HOWN.out.keptB hSw8 hzr)
      replace HB := hide (HB.out.trans (hSw8.mono hzr))
      clear hSw8 HNX HNE
      go_upto_region 11 with fail
      try simp only [Act.put, s1_, s2_, s3_]
      have hzr2 : base ≤ w8.heap.size := Nat.le_trans hbw.2 HB.out.size
      have hbW : b < w8.heap.size := Nat.lt_of_lt_of_le hbb (Nat.le_trans hbase hzr2)
      have hg3W : g3 < w8.heap.size := H3.out.lt
      have HNX := hide (show w8.cell? ⟨b, o + i * 108, none⟩ = some (.string (strOfNums x.name)) from ((HW1.out.trans (HB.out.mono hbase)).cell (p := ⟨b, o + i * 108, none⟩) hbb).trans (by have := HRGw.out 0 _ HX0.out; rwa [Nat.add_zero] at this))
      have HNE := hide (show w8.cell? ⟨g3, 0, none⟩ = some (.string (strOfNums e.name)) by rw [H3.out.cell]; exact HE0.out)
      refine wp_region_qw (Below w8.heap.size w8) (by kernel_rfl) (by kernel_rfl) (Below.refl _ _).drew ?_
      refine qw_val (v := .slice (some ⟨b, o, none⟩) n c) 33 rfl (by kernel_rfl) (fun w' hS => exec_move _ rfl (.slice (some ⟨b, o, none⟩) n c) rfl) ?_
      simp only [Act.put, s1_, s2_, s3_]
      refine qw_val (v := .int .i64 ((i : Int))) 34 rfl (by kernel_rfl) (fun w' hS => exec_move _ rfl (.int .i64 ((i : Int))) rfl) ?_
      simp only [Act.put, s1_, s2_, s3_]
      refine qw_val (v := .pointer (some ⟨b, o + i * 108, none⟩)) 35 rfl (by kernel_rfl) (fun w' hS => exec_indexG _ _ _ rfl _ n c b o 108 i rfl rfl rfl (by omega) (by kernel_rfl) _ (by omega)) ?_
      simp only [Act.put, s1_, s2_, s3_]
      refine qw_val (v := .pointer (some ⟨b, o + i * 108, none⟩)) 36 rfl (by kernel_rfl) (fun w' hS => exec_fieldG _ _ 0 0 rfl b (o + i * 108) rfl (by kernel_rfl) _ (by first | rfl | omega)) ?_
      simp only [Act.put, s1_, s2_, s3_]
      refine qw_val (v := .string (strOfNums x.name)) 37 rfl (by kernel_rfl) (fun w' hS => exec_load_one _ _ rfl b (o + i * 108) rfl _ Tryd.underlying9 rfl _ ((hS.cell (p := ⟨b, o + i * 108, none⟩) hbW).trans HNX.out)) ?_
      simp only [Act.put, s1_, s2_, s3_]
      refine qw_val (v := .pointer (some ⟨g3, 0, none⟩)) 38 rfl (by kernel_rfl) (fun w' hS => exec_fieldG _ _ 0 0 rfl g3 0 rfl (by kernel_rfl) _ (by first | rfl | omega)) ?_
      simp only [Act.put, s1_, s2_, s3_]
      refine qw_val (v := .string (strOfNums e.name)) 39 rfl (by kernel_rfl) (fun w' hS => exec_load_one _ _ rfl g3 0 rfl _ Tryd.underlying9 rfl _ ((hS.cell (p := ⟨g3, 0, none⟩) hg3W).trans HNE.out)) ?_
      simp only [Act.put, s1_, s2_, s3_]
      refine qw_val (v := .bool true) 40 rfl (by kernel_rfl) (fun w' hS => exec_neq_name _ _ _ rfl x.name e.name rfl rfl HXB.out HEB.out _ HNQ.out) ?_
      simp only [Act.put, s1_, s2_, s3_]
      refine qw_nil ?_
      intro w11 hSw11
      replace H3 := hide (H3.out.below hSw11 H3.out.lt)
      replace HOWN := hide (HOWN.out.keptB hSw11 hzr2)
      replace HB := hide (HB.out.trans (hSw11.mono hzr2))
      clear hSw11 HNX HNE
      have hzk2 : base ≤ w11.heap.size := Nat.le_trans hbw.2 HB.out.size
      have HYx := hide (show (EntL.mk x la lb).Ok w11 w.heap.size from ⟨HXOK.out.toWf, .inl (HXOK.out.r1.below (HW1.out.trans (HB.out.mono hbase)) (Nat.le_refl _)), .inl (HXOK.out.w1.below (HW1.out.trans (HB.out.mono hbase)) (Nat.le_refl _))⟩)
      have HRG := hide (fun (j : Nat) (u : Value) (hu : (entC x la lb)[j]? = some u) => show _ = some u from ((HW1.out.trans (HB.out.mono hbase)).cell (p := ⟨b, o + i * 108 + j, none⟩) hbb).trans (HRGw.out j u hu))
      go_wp2_with (first
       | go_skip
       | (refine wpList_val_ rfl (exec_loadAll 45 _ rfl b (o + i * 108) rfl _ (entC x la lb) HRG.out Tryd.underlying45 rfl HSZ.out) ?_)
       | (refine wpList_lit_ent rfl _ rfl (EntL.mk x la lb) HYx.out.wf rfl ?_)
       | (at_builtin; refine wpList_append_ent rfl _ _ rfl base w.heap.size u6 out rfl HOWN.out hzk2 HOL.out (EntL.mk x la lb) HYx.out rfl ?_; intro v6b w6b hob hpb hkb; replace HOWN := hide hob; replace HB := hide (HB.out.trans hpb); clear hob hpb hkb))
      go_roundw
      case measure => simp [intOf]; omega
      case rel => exact ⟨i + 1, out ++ [x], false, by go_num, rfl, by omega, HOWN.out, HNEXT.out, HB.out⟩
    rcases qn with _ | _
    case false =>
     have hnm : x.name = e.name := of_decide_eq_true HNQ.out
     have HNEXT := hide (show (out ++ [e]) ++ insG e true (l.drop (i + 1)) = tot by rw [← HEQ.out, HAT.out, HLT.out]; simp [hnm])
     clear hnm
     go_upto_region 8 with fail
     try simp only [Act.put, s1_, s2_, s3_]
     have hzr : base ≤ wr.heap.size := Nat.le_trans hbw.2 HB.out.size
     have hbW : b < wr.heap.size := Nat.lt_of_lt_of_le hbb (Nat.le_trans hbase hzr)
     have hg3W : g3 < wr.heap.size := H3.out.lt
     have HNX := hide (show wr.cell? ⟨b, o + i * 108, none⟩ = some (.string (strOfNums x.name)) from ((HW1.out.trans (HB.out.mono hbase)).cell (p := ⟨b, o + i * 108, none⟩) hbb).trans (by have := HRGw.out 0 _ HX0.out; rwa [Nat.add_zero] at this))
     have HNE := hide (show wr.cell? ⟨g3, 0, none⟩ = some (.string (strOfNums e.name)) by rw [H3.out.cell]; exact HE0.out)
     refine wp_region_qw (Below wr.heap.size wr) (by kernel_rfl) (by kernel_rfl) (Below.refl _ _).drew ?_
     refine qw_val (v := .bool false) 17 rfl (by kernel_rfl) (fun w' hS => exec_move _ rfl (.bool false) rfl) ?_
     simp only [Act.put, s1_, s2_, s3_]
     refine qw_val (v := .bool true) 18 rfl (by kernel_rfl) (fun w' hS => exec_notG _ _ rfl false rfl _ rfl) ?_
     simp only [Act.put, s1_, s2_, s3_]
     refine qw_val (v := .bool true) 19 rfl (by kernel_rfl) (fun w' hS => exec_move _ rfl (.bool true) rfl) ?_
     simp only [Act.put, s1_, s2_, s3_]
     refine qw_val (v := .slice (some ⟨b, o, none⟩) n c) 20 rfl (by kernel_rfl) (fun w' hS => exec_move _ rfl (.slice (some ⟨b, o, none⟩) n c) rfl) ?_
     simp only [Act.put, s1_, s2_, s3_]
     refine qw_val (v := .int .i64 ((i : Int))) 21 rfl (by kernel_rfl) (fun w' hS => exec_move _ rfl (.int .i64 ((i : Int))) rfl) ?_
     simp only [Act.put, s1_, s2_, s3_]
     refine qw_val (v := .pointer (some ⟨b, o + i * 108, none⟩)) 22 rfl (by kernel_rfl) (fun w' hS => exec_indexG _ _ _ rfl _ n c b o 108 i rfl rfl rfl (by omega) (by kernel_rfl) _ (by omega)) ?_
     simp only [Act.put, s1_, s2_, s3_]
     refine qw_val (v := .pointer (some ⟨b, o + i * 108, none⟩)) 23 rfl (by kernel_rfl) (fun w' hS => exec_fieldG _ _ 0 0 rfl b (o + i * 108) rfl (by kernel_rfl) _ (by first | rfl | omega)) ?_
     simp only [Act.put, s1_, s2_, s3_]
     refine qw_val (v := .string (strOfNums x.name)) 24 rfl (by kernel_rfl) (fun w' hS => exec_load_one _ _ rfl b (o + i * 108) rfl _ Tryd.underlying9 rfl _ ((hS.cell (p := ⟨b, o + i * 108, none⟩) hbW).trans HNX.out)) ?_
     simp only [Act.put, s1_, s2_, s3_]
     refine qw_val (v := .pointer (some ⟨g3, 0, none⟩)) 25 rfl (by kernel_rfl) (fun w' hS => exec_fieldG _ _ 0 0 rfl g3 0 rfl (by kernel_rfl) _ (by first | rfl | omega)) ?_
     simp only [Act.put, s1_, s2_, s3_]
     refine qw_val (v := .string (strOfNums e.name)) 26 rfl (by kernel_rfl) (fun w' hS => exec_load_one _ _ rfl g3 0 rfl _ Tryd.underlying9 rfl _ ((hS.cell (p := ⟨g3, 0, none⟩) hg3W).trans HNE.out)) ?_
     simp only [Act.put, s1_, s2_, s3_]
     refine qw_val (v := .bool true) 27 rfl (by kernel_rfl) (fun w' hS => exec_geq_name _ _ _ rfl x.name e.name rfl rfl HXB.out HEB.out _ HGE.out) ?_
     simp only [Act.put, s1_, s2_, s3_]
     refine qw_val (v := .bool true) 28 rfl (by kernel_rfl) (fun w' hS => exec_pickG _ _ _ rfl true rfl _ rfl) ?_
     simp only [Act.put, s1_, s2_, s3_]
     refine qw_nil ?_
     intro w8 hSw8
     replace H3 := hide (H3.out.below hSw8 H3.out.lt)
     replace HOWN := hide (HOWN.out.keptB hSw8 hzr)
     replace HB := hide (HB.out.trans (hSw8.mono hzr))
     clear hSw8 HNX HNE
     have hzk : base ≤ w8.heap.size := Nat.le_trans hbw.2 HB.out.size
     have HYe := hide (show (EntL.mk e lr lw).Ok w8 w.heap.size from ⟨HOE.out.toWf, .inl (HOE.out.r1.below (HW1.out.trans (HB.out.mono hbase)) (Nat.le_refl _)), .inl (HOE.out.w1.below (HW1.out.trans (HB.out.mono hbase)) (Nat.le_refl _))⟩)
     go_upto_region 11 with (first
      | go_skip
      | (refine wpList_st_all 45 _ rfl rfl rfl H3.out _ Tryd.underlying45 rfl HEZ.out ?_)
      | (refine wpList_lit_ent rfl _ rfl (EntL.mk e lr lw) HYe.out.wf rfl ?_)
      | (at_builtin; refine wpList_append_ent rfl _ _ rfl base w.heap.size u6 out rfl HOWN.out hzk HOL.out (EntL.mk e lr lw) HYe.out rfl ?_; intro v6a w6a hoa hpa hka; replace HOWN := hide hoa; replace H3 := hide (H3.out.below hpa hg3b); replace HB := hide (HB.out.trans hpa); clear hoa hpa hka))
     try simp only [Act.put, s1_, s2_, s3_]
     replace HOL := hide (show (out ++ [e]).length ≤ 1000000 by have := HOL1.out; simp; omega)
     have hzr2 : base ≤ w6a.heap.size := Nat.le_trans hbw.2 HB.out.size
     have hbW : b < w6a.heap.size := Nat.lt_of_lt_of_le hbb (Nat.le_trans hbase hzr2)
     have hg3W : g3 < w6a.heap.size := H3.out.lt
     have HNX := hide (show w6a.cell? ⟨b, o + i * 108, none⟩ = some (.string (strOfNums x.name)) from ((HW1.out.trans (HB.out.mono hbase)).cell (p := ⟨b, o + i * 108, none⟩) hbb).trans (by have := HRGw.out 0 _ HX0.out; rwa [Nat.add_zero] at this))
     have HNE := hide (show w6a.cell? ⟨g3, 0, none⟩ = some (.string (strOfNums e.name)) by rw [H3.out.cell]; exact HE0.out)
     refine wp_region_qw (Below w6a.heap.size w6a) (by kernel_rfl) (by kernel_rfl) (Below.refl _ _).drew ?_
     refine qw_val (v := .slice (some ⟨b, o, none⟩) n c) 33 rfl (by kernel_rfl) (fun w' hS => exec_move _ rfl (.slice (some ⟨b, o, none⟩) n c) rfl) ?_
     simp only [Act.put, s1_, s2_, s3_]
     refine qw_val (v := .int .i64 ((i : Int))) 34 rfl (by kernel_rfl) (fun w' hS => exec_move _ rfl (.int .i64 ((i : Int))) rfl) ?_
     simp only [Act.put, s1_, s2_, s3_]
     refine qw_val (v := .pointer (some ⟨b, o + i * 108, none⟩)) 35 rfl (by kernel_rfl) (fun w' hS => exec_indexG _ _ _ rfl _ n c b o 108 i rfl rfl rfl (by omega) (by kernel_rfl) _ (by omega)) ?_
     simp only [Act.put, s1_, s2_, s3_]
     refine qw_val (v := .pointer (some ⟨b, o + i * 108, none⟩)) 36 rfl (by kernel_rfl) (fun w' hS => exec_fieldG _ _ 0 0 rfl b (o + i * 108) rfl (by kernel_rfl) _ (by first | rfl | omega)) ?_
     simp only [Act.put, s1_, s2_, s3_]
     refine qw_val (v := .string (strOfNums x.name)) 37 rfl (by kernel_rfl) (fun w' hS => exec_load_one _ _ rfl b (o + i * 108) rfl _ Tryd.underlying9 rfl _ ((hS.cell (p := ⟨b, o + i * 108, none⟩) hbW).trans HNX.out)) ?_
     simp only [Act.put, s1_, s2_, s3_]
     refine qw_val (v := .pointer (some ⟨g3, 0, none⟩)) 38 rfl (by kernel_rfl) (fun w' hS => exec_fieldG _ _ 0 0 rfl g3 0 rfl (by kernel_rfl) _ (by first | rfl | omega)) ?_
     simp only [Act.put, s1_, s2_, s3_]
     refine qw_val (v := .string (strOfNums e.name)) 39 rfl (by kernel_rfl) (fun w' hS => exec_load_one _ _ rfl g3 0 rfl _ Tryd.underlying9 rfl _ ((hS.cell (p := ⟨g3, 0, none⟩) hg3W).trans HNE.out)) ?_
     simp only [Act.put, s1_, s2_, s3_]
     refine qw_val (v := .bool false) 40 rfl (by kernel_rfl) (fun w' hS => exec_neq_name _ _ _ rfl x.name e.name rfl rfl HXB.out HEB.out _ HNQ.out) ?_
     simp only [Act.put, s1_, s2_, s3_]
     refine qw_nil ?_
     intro w11 hSw11
     replace H3 := hide (H3.out.below hSw11 H3.out.lt)
     replace HOWN := hide (HOWN.out.keptB hSw11 hzr2)
     replace HB := hide (HB.out.trans (hSw11.mono hzr2))
     clear hSw11 HNX HNE
     go_wp2_with fail
     go_roundw
     case measure => simp [intOf]; omega
     case rel => exact ⟨i + 1, out ++ [e], true, by go_num, rfl, by omega, HOWN.out, HNEXT.out, HB.out⟩
    case true =>
     have hnm : ¬ x.name = e.name := of_decide_eq_false HNQ.out
     have HNEXT := hide (show (out ++ [e] ++ [x]) ++ insG e true (l.drop (i + 1)) = tot by rw [← HEQ.out, HAT.out, HLT.out]; simp [hnm])
     clear hnm
     go_upto_region 8 with fail
     try simp only [Act.put, s1_, s2_, s3_]
     have hzr : base ≤ wr.heap.size := Nat.le_trans hbw.2 HB.out.size
     have hbW : b < wr.heap.size := Nat.lt_of_lt_of_le hbb (Nat.le_trans hbase hzr)
     have hg3W : g3 < wr.heap.size := H3.out.lt
     have HNX := hide (show wr.cell? ⟨b, o + i * 108, none⟩ = some (.string (strOfNums x.name)) from ((HW1.out.trans (HB.out.mono hbase)).cell (p := ⟨b, o + i * 108, none⟩) hbb).trans (by have := HRGw.out 0 _ HX0.out; rwa [Nat.add_zero] at this))
     have HNE := hide (show wr.cell? ⟨g3, 0, none⟩ = some (.string (strOfNums e.name)) by rw [H3.out.cell]; exact HE0.out)
     refine wp_region_qw (Below wr.heap.size wr) (by kernel_rfl) (by kernel_rfl) (Below.refl _ _).drew ?_
     refine qw_val (v := .bool false) 17 rfl (by kernel_rfl) (fun w' hS => exec_move _ rfl (.bool false) rfl) ?_
     simp only [Act.put, s1_, s2_, s3_]
     refine qw_val (v := .bool true) 18 rfl (by kernel_rfl) (fun w' hS => exec_notG _ _ rfl false rfl _ rfl) ?_
     simp only [Act.put, s1_, s2_, s3_]
     refine qw_val (v := .bool true) 19 rfl (by kernel_rfl) (fun w' hS => exec_move _ rfl (.bool true) rfl) ?_
     simp only [Act.put, s1_, s2_, s3_]
     refine qw_val (v := .slice (some ⟨b, o, none⟩) n c) 20 rfl (by kernel_rfl) (fun w' hS => exec_move _ rfl (.slice (some ⟨b, o, none⟩) n c) rfl) ?_
     simp only [Act.put, s1_, s2_, s3_]
     refine qw_val (v := .int .i64 ((i : Int))) 21 rfl (by kernel_rfl) (fun w' hS => exec_move _ rfl (.int .i64 ((i : Int))) rfl) ?_
     simp only [Act.put, s1_, s2_, s3_]
     refine qw_val (v := .pointer (some ⟨b, o + i * 108, none⟩)) 22 rfl (by kernel_rfl) (fun w' hS => exec_indexG _ _ _ rfl _ n c b o 108 i rfl rfl rfl (by omega) (by kernel_rfl) _ (by omega)) ?_
     simp only [Act.put, s1_, s2_, s3_]
     refine qw_val (v := .pointer (some ⟨b, o + i * 108, none⟩)) 23 rfl (by kernel_rfl) (fun w' hS => exec_fieldG _ _ 0 0 rfl b (o + i * 108) rfl (by kernel_rfl) _ (by first | rfl | omega)) ?_
     simp only [Act.put, s1_, s2_, s3_]
     refine qw_val (v := .string (strOfNums x.name)) 24 rfl (by kernel_rfl) (fun w' hS => exec_load_one _ _ rfl b (o + i * 108) rfl _ Tryd.underlying9 rfl _ ((hS.cell (p := ⟨b, o + i * 108, none⟩) hbW).trans HNX.out)) ?_
     simp only [Act.put, s1_, s2_, s3_]
     refine qw_val (v := .pointer (some ⟨g3, 0, none⟩)) 25 rfl (by kernel_rfl) (fun w' hS => exec_fieldG _ _ 0 0 rfl g3 0 rfl (by kernel_rfl) _ (by first | rfl | omega)) ?_
     simp only [Act.put, s1_, s2_, s3_]
     refine qw_val (v := .string (strOfNums e.name)) 26 rfl (by kernel_rfl) (fun w' hS => exec_load_one _ _ rfl g3 0 rfl _ Tryd.underlying9 rfl _ ((hS.cell (p := ⟨g3, 0, none⟩) hg3W).trans HNE.out)) ?_
     simp only [Act.put, s1_, s2_, s3_]
     refine qw_val (v := .bool true) 27 rfl (by kernel_rfl) (fun w' hS => exec_geq_name _ _ _ rfl x.name e.name rfl rfl HXB.out HEB.out _ HGE.out) ?_
     simp only [Act.put, s1_, s2_, s3_]
     refine qw_val (v := .bool true) 28 rfl (by kernel_rfl) (fun w' hS => exec_pickG _ _ _ rfl true rfl _ rfl) ?_
     simp only [Act.put, s1_, s2_, s3_]
     refine qw_nil ?_
     intro w8 hSw8
     replace H3 := hide (H3.out.below hSw8 H3.out.lt)
     replace HOWN := hide (HOWN.out.keptB hSw8 hzr)
     replace HB := hide (HB.out.trans (hSw8.mono hzr))
     clear hSw8 HNX HNE
     have hzk : base ≤ w8.heap.size := Nat.le_trans hbw.2 HB.out.size
     have HYe := hide (show (EntL.mk e lr lw).Ok w8 w.heap.size from ⟨HOE.out.toWf, .inl (HOE.out.r1.below (HW1.out.trans (HB.out.mono hbase)) (Nat.le_refl _)), .inl (HOE.out.w1.below (HW1.out.trans (HB.out.mono hbase)) (Nat.le_refl _))⟩)
     go_upto_region 11 with (first
      | go_skip
      | (refine wpList_st_all 45 _ rfl rfl rfl H3.out _ Tryd.underlying45 rfl HEZ.out ?_)
      | (refine wpList_lit_ent rfl _ rfl (EntL.mk e lr lw) HYe.out.wf rfl ?_)
      | (at_builtin; refine wpList_append_ent rfl _ _ rfl base w.heap.size u6 out rfl HOWN.out hzk HOL.out (EntL.mk e lr lw) HYe.out rfl ?_; intro v6a w6a hoa hpa hka; replace HOWN := hide hoa; replace H3 := hide (H3.out.below hpa hg3b); replace HB := hide (HB.out.trans hpa); clear hoa hpa hka))
     try simp only [Act.put, s1_, s2_, s3_]
     replace HOL := hide (show (out ++ [e]).length ≤ 1000000 by have := HOL1.out; simp; omega)
     have hzr2 : base ≤ w6a.heap.size := Nat.le_trans hbw.2 HB.out.size
     have hbW : b < w6a.heap.size := Nat.lt_of_lt_of_le hbb (Nat.le_trans hbase hzr2)
     have hg3W : g3 < w6a.heap.size := H3.out.lt
     have HNX := hide (show w6a.cell? ⟨b, o + i * 108, none⟩ = some (.string (strOfNums x.name)) from ((HW1.out.trans (HB.out.mono hbase)).cell (p := ⟨b, o + i * 108, none⟩) hbb).trans (by have := HRGw.out 0 _ HX0.out; rwa [Nat.add_zero] at this))
     have HNE := hide (show w6a.cell? ⟨g3, 0, none⟩ = some (.string (strOfNums e.name)) by rw [H3.out.cell]; exact HE0.out)
     refine wp_region_qw (Below w6a.heap.size w6a) (by kernel_rfl) (by kernel_rfl) (Below.refl _ _).drew ?_
     refine qw_val (v := .slice (some ⟨b, o, none⟩) n c) 33 rfl (by kernel_rfl) (fun w' hS => exec_move _ rfl (.slice (some ⟨b, o, none⟩) n c) rfl) ?_
     simp only [Act.put, s1_, s2_, s3_]
     refine qw_val (v := .int .i64 ((i : Int))) 34 rfl (by kernel_rfl) (fun w' hS => exec_move _ rfl (.int .i64 ((i : Int))) rfl) ?_
     simp only [Act.put, s1_, s2_, s3_]
     refine qw_val (v := .pointer (some ⟨b, o + i * 108, none⟩)) 35 rfl (by kernel_rfl) (fun w' hS => exec_indexG _ _ _ rfl _ n c b o 108 i rfl rfl rfl (by omega) (by kernel_rfl) _ (by omega)) ?_
     simp only [Act.put, s1_, s2_, s3_]
     refine qw_val (v := .pointer (some ⟨b, o + i * 108, none⟩)) 36 rfl (by kernel_rfl) (fun w' hS => exec_fieldG _ _ 0 0 rfl b (o + i * 108) rfl (by kernel_rfl) _ (by first | rfl | omega)) ?_
     simp only [Act.put, s1_, s2_, s3_]
     refine qw_val (v := .string (strOfNums x.name)) 37 rfl (by kernel_rfl) (fun w' hS => exec_load_one _ _ rfl b (o + i * 108) rfl _ Tryd.underlying9 rfl _ ((hS.cell (p := ⟨b, o + i * 108, none⟩) hbW).trans HNX.out)) ?_
     simp only [Act.put, s1_, s2_, s3_]
     refine qw_val (v := .pointer (some ⟨g3, 0, none⟩)) 38 rfl (by kernel_rfl) (fun w' hS => exec_fieldG _ _ 0 0 rfl g3 0 rfl (by kernel_rfl) _ (by first | rfl | omega)) ?_
     simp only [Act.put, s1_, s2_, s3_]
     refine qw_val (v := .string (strOfNums e.name)) 39 rfl (by kernel_rfl) (fun w' hS => exec_load_one _ _ rfl g3 0 rfl _ Tryd.underlying9 rfl _ ((hS.cell (p := ⟨g3, 0, none⟩) hg3W).trans HNE.out)) ?_
     simp only [Act.put, s1_, s2_, s3_]
     refine qw_val (v := .bool true) 40 rfl (by kernel_rfl) (fun w' hS => exec_neq_name _ _ _ rfl x.name e.name rfl rfl HXB.out HEB.out _ HNQ.out) ?_
     simp only [Act.put, s1_, s2_, s3_]
     refine qw_nil ?_
     intro w11 hSw11
     replace H3 := hide (H3.out.below hSw11 H3.out.lt)
     replace HOWN := hide (HOWN.out.keptB hSw11 hzr2)
     replace HB := hide (HB.out.trans (hSw11.mono hzr2))
     clear hSw11 HNX HNE
     have hzk2 : base ≤ w11.heap.size := Nat.le_trans hbw.2 HB.out.size
     have HYx := hide (show (EntL.mk x la lb).Ok w11 w.heap.size from ⟨HXOK.out.toWf, .inl (HXOK.out.r1.below (HW1.out.trans (HB.out.mono hbase)) (Nat.le_refl _)), .inl (HXOK.out.w1.below (HW1.out.trans (HB.out.mono hbase)) (Nat.le_refl _))⟩)
     have HRG := hide (fun (j : Nat) (u : Value) (hu : (entC x la lb)[j]? = some u) => show _ = some u from ((HW1.out.trans (HB.out.mono hbase)).cell (p := ⟨b, o + i * 108 + j, none⟩) hbb).trans (HRGw.out j u hu))
     go_wp2_with (first
      | go_skip
      | (refine wpList_val_ rfl (exec_loadAll 45 _ rfl b (o + i * 108) rfl _ (entC x la lb) HRG.out Tryd.underlying45 rfl HSZ.out) ?_)
      | (refine wpList_lit_ent rfl _ rfl (EntL.mk x la lb) HYx.out.wf rfl ?_)
      | (at_builtin; refine wpList_append_ent rfl _ _ rfl base w.heap.size v6a (out ++ [e]) rfl HOWN.out hzk2 HOL.out (EntL.mk x la lb) HYx.out rfl ?_; intro v6b w6b hob hpb hkb; replace HOWN := hide hob; replace HB := hide (HB.out.trans hpb); clear hob hpb hkb))
     go_roundw
     case measure => simp [intOf]; omega
     case rel => exact ⟨i + 1, out ++ [e] ++ [x], true, by go_num, rfl, by omega, HOWN.out, HNEXT.out, HB.out⟩
  · obtain rfl : i = n := by omega
    have hlt' : ¬ (i : Int) < (i : Int) := by omega
    have HEND := hide (show out ++ (if put then [] else [e]) = tot by rw [← HEQ.out, List.drop_eq_nil_of_le (by rw [HN.out]; exact Nat.le_refl _)]; rfl)
    rcases put with _ | _
    case true =>
     have HOT := hide (show out = tot by rw [← HEND.out]; simp)
     rw [HOT.out] at HOWN
     go_wp2_with fail
     have hzg : base ≤ wr.heap.size := Nat.le_trans hbw.2 HB.out.size
     refine (drightR_any u6 tot _ (HOWN.out.reads hzg) HTM.out (by have := HTL.out; omega)).mono ?_
     rintro _ wh ⟨rfl, hbh⟩
     rw [HRT.out]
     replace HOWN := hide (HOWN.out.keptB hbh hzg)
     replace HB := hide (HB.out.trans (hbh.mono hzg))
     clear hbh
     rcases rt with _ | _
     case false =>
      go_wp2_with fail
      go_ret2
      exact ⟨_, rfl, OwnEnts.nil_ _ (Nat.le_refl _), HW1.out.trans (HB.out.mono hbase)⟩
     go_wp2_with fail
     go_ret2
     exact ⟨_, rfl, HOWN.out.lower hbase (Nat.le_refl _) (Nat.le_refl _), HW1.out.trans (HB.out.mono hbase)⟩
    have HOT := hide (show out ++ [e] = tot from HEND.out)
    have hzk : base ≤ wr.heap.size := Nat.le_trans hbw.2 HB.out.size
    have HYe := hide (show (EntL.mk e lr lw).Ok wr w.heap.size from ⟨HOE.out.toWf, .inl (HOE.out.r1.below (HW1.out.trans (HB.out.mono hbase)) (Nat.le_refl _)), .inl (HOE.out.w1.below (HW1.out.trans (HB.out.mono hbase)) (Nat.le_refl _))⟩)
    go_wp2_with (first
     | go_skip
     | (refine wpList_st_all 45 _ rfl rfl rfl H3.out _ Tryd.underlying45 rfl HEZ.out ?_)
     | (refine wpList_lit_ent rfl _ rfl (EntL.mk e lr lw) HYe.out.wf rfl ?_)
     | (at_builtin; refine wpList_append_ent rfl _ _ rfl base w.heap.size u6 out rfl HOWN.out hzk HOL.out (EntL.mk e lr lw) HYe.out rfl ?_; intro v6a w6a hoa hpa hka; replace HOWN := hide hoa; replace H3 := hide (H3.out.below hpa hg3b); replace HB := hide (HB.out.trans hpa); clear hoa hpa hka))
    replace HOWN := hide (show OwnEnts w6a base w.heap.size v6a tot from HOT.out ▸ HOWN.out)
    have hzg : base ≤ w6a.heap.size := Nat.le_trans hbw.2 HB.out.size
    refine (drightR_any v6a tot _ (HOWN.out.reads hzg) HTM.out (by have := HTL.out; omega)).mono ?_
    rintro _ wh ⟨rfl, hbh⟩
    rw [HRT.out]
    replace HOWN := hide (HOWN.out.keptB hbh hzg)
    replace HB := hide (HB.out.trans (hbh.mono hzg))
    clear hbh
    rcases rt with _ | _
    case false =>
     go_wp2_with fail
     go_ret2
     exact ⟨_, rfl, OwnEnts.nil_ _ (Nat.le_refl _), HW1.out.trans (HB.out.mono hbase)⟩
    go_wp2_with fail
    go_ret2
    exact ⟨_, rfl, HOWN.out.lower hbase (Nat.le_refl _) (Nat.le_refl _), HW1.out.trans (HB.out.mono hbase)⟩
end Go.Proofs.YthdjgebbjogmiaaDoor
