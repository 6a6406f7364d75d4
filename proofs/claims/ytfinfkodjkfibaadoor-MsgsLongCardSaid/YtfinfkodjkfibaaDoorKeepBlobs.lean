/- aumbrykeep.Blobs: are they the same blobs? No condition. -/
import Derived.Test.YtfinfkodjkfibaaDoorBlobs
import Derived.Test.YtfinfkodjkfibaaDoorKeep
import Derived.Test.YtfinfkodjkfibaaDoorSym
import Derived.Deep.DeepCutAuto
namespace Go.Proofs.YtfinfkodjkfibaaDoor
open Go Go.RowKit
set_option linter.unusedVariables false
set_option linter.unusedSimpArgs false
set_option maxRecDepth 100000
set_option maxHeartbeats 4000000
theorem keep_blobs (va vb : Value) (la lb : List Msg.Blb) (w : World) (B : Nat) (hB : B ≤ w.heap.size) (ha : BlbsB w B va la) (hb : BlbsB w B vb lb) :
    Calls Tryd.prog 15 #[va, vb] w fun e w' => e = .returned (.bool (decide (la = lb))) ∧ Below B w w' := by
  obtain ⟨A, ca, rfl, h1, h2, h3⟩ := ha.open_
  obtain ⟨A', cb, rfl, h1', h2', h3'⟩ := hb.open_
  unfold maxLen at h2 h2'
  have HA := hide h3
  have HA' := hide h3'
  obtain ⟨n, HN⟩ : ∃ n, Hid (la.length = n) := ⟨_, hide rfl⟩
  obtain ⟨m, HM⟩ : ∃ n, Hid (lb.length = n) := ⟨_, hide rfl⟩
  obtain ⟨R, HR⟩ : ∃ r, Hid (decide (la = lb) = r) := ⟨_, hide rfl⟩
  rw [HR.out]
  have HBe := hide (Below.refl B w)
  rw [HN.out] at h1 ⊢
  rw [HM.out] at h1' ⊢
  clear h3 h3' ha hb
  by_cases hnm : n = m
  case neg =>
    have HNO := hide (show R = false by rw [← HR.out]; exact decide_eq_false (fun h => hnm (by rw [← HN.out, ← HM.out, h])))
    have hne : ((n : Int) != (m : Int)) = true := by simp; omega
    clear hnm
    go_enter Tryd.func15, Tryd.ntmps15
    go_wp2_with fail
    go_ret
    exact ⟨by rw [HNO.out]; rfl, HBe.out⟩
  subst hnm
  have hne0 : ((n : Int) != (n : Int)) = false := by simp
  have HT0 := hide (show la.take 0 = lb.take 0 by simp)
  go_enter Tryd.func15, Tryd.ntmps15
  go_wp2_with fail
  go_loopw [13] (fun v13 wr => ∃ i : Nat, v13 = .int .i64 (i : Int) ∧ i ≤ n ∧ la.take i = lb.take i ∧ Below B w wr) (fun v13 _ => n - (intOf v13).toNat)
  case atStart => exact ⟨0, by go_num, by omega, HT0.out, HBe.out⟩
  case round =>
    obtain ⟨i, rfl, hin, ht, hbel⟩ := hrel
    have HT := hide ht
    have HB := hide hbel
    have hws := hbel.size
    clear ht hbel
    by_cases hlt : i < n
    · have hlt' : (i : Int) < (n : Int) := by omega
      obtain ⟨ba, oa, rfl, hba, hca⟩ := HA.out (by rw [HN.out]; omega)
      obtain ⟨bb, ob, rfl, hbb, hcb⟩ := HA'.out (by rw [HM.out]; omega)
      obtain ⟨hc1, u, hc2, hu⟩ := hca i (by rw [HN.out]; exact hlt)
      obtain ⟨hd1, v, hd2, hv⟩ := hcb i (by rw [HM.out]; exact hlt)
      have HSN := hide (show la.take (i + 1) = la.take i ++ [la[i]'(by rw [HN.out]; exact hlt)] from List.take_succ_eq_append_getElem _)
      have HSM2 := hide (show lb.take (i + 1) = lb.take i ++ [lb[i]'(by rw [HM.out]; exact hlt)] from List.take_succ_eq_append_getElem _)
      have HDIF := hide (show la[i]'(by rw [HN.out]; exact hlt) ≠ lb[i]'(by rw [HM.out]; exact hlt) → R = false from fun h => by
        rw [← HR.out]
        refine decide_eq_false (fun e => h ?_)
        subst e; rfl)
      obtain ⟨x, HX⟩ : ∃ x, Hid (la[i]'(by rw [HN.out]; exact hlt) = x) := ⟨_, hide rfl⟩
      obtain ⟨y, HY⟩ : ∃ x, Hid (lb[i]'(by rw [HM.out]; exact hlt) = x) := ⟨_, hide rfl⟩
      rw [HX.out] at hc1 hu HSN HDIF
      rw [HY.out] at hd1 hv HSM2 HDIF
      obtain ⟨X, x2⟩ := x
      obtain ⟨Y, y2⟩ := y
      simp only at hc1 hd1 hu hv
      have HC1 := hide hc1
      have HC2 := hide hc2
      have HD1 := hide hd1
      have HD2 := hide hd2
      have HSAME := hide (fun (w' : World) (hS : Below B w w') => (same_bytes u v x2 y2 w' B (hu.below hS (Nat.le_refl _)) (hv.below hS (Nat.le_refl _)) (Nat.le_trans hB hS.size)).mono (fun e w'' hh => (⟨hh.1, hS.trans (hh.2.mono (Nat.le_trans hB hS.size))⟩ : e = .returned (.bool (decide (x2 = y2))) ∧ Below B w w'')))
      clear hc1 hc2 hd1 hd2 hca hcb hu hv HX HY
      by_cases hXY : X = Y
      · have hne : (X != Y) = false := by simpa using hXY
        by_cases hxy : x2 = y2
        · have HSM := hide (fun (w' : World) (hS : Below B w w') => by have := HSAME.out w' hS; rw [decide_eq_true hxy] at this; exact this)
          have HTK := hide (show la.take (i + 1) = lb.take (i + 1) by rw [HSN.out, HSM2.out, HT.out, hXY, hxy])
          clear HSAME hXY hxy HDIF HSN HSM2
          go_upto_region 6 with fail
          refine wp_region_qw (Below B w) (by kernel_rfl) (by kernel_rfl) HB.out.drew ?_
          refine qw_val (v := .slice (some ⟨ba, oa, none⟩) n ca) 16 rfl (by kernel_rfl) (fun w' hS => exec_move _ rfl (.slice (some ⟨ba, oa, none⟩) n ca) rfl) ?_
          simp only [Act.put, List.setIfInBounds_toArray, List.set_cons_zero, List.set_cons_succ]
          refine qw_val (v := .int .i64 ((i : Int))) 17 rfl (by kernel_rfl) (fun w' hS => exec_move _ rfl (.int .i64 ((i : Int))) rfl) ?_
          simp only [Act.put, List.setIfInBounds_toArray, List.set_cons_zero, List.set_cons_succ]
          refine qw_val (v := .pointer (some ⟨ba, oa + i * 2, none⟩)) 18 rfl (by kernel_rfl) (fun w' hS => exec_indexG _ _ _ rfl _ n ca ba oa 2 i rfl rfl rfl (by omega) (by kernel_rfl) _ (by omega)) ?_
          simp only [Act.put, List.setIfInBounds_toArray, List.set_cons_zero, List.set_cons_succ]
          refine qw_val (v := .pointer (some ⟨ba, oa + i * 2, none⟩)) 19 rfl (by kernel_rfl) (fun w' hS => exec_fieldG _ _ 0 0 rfl ba (oa + i * 2) rfl (by kernel_rfl) _ (by first | rfl | omega)) ?_
          simp only [Act.put, List.setIfInBounds_toArray, List.set_cons_zero, List.set_cons_succ]
          refine qw_val (v := .int .i64 X) 20 rfl (by kernel_rfl) (fun w' hS => exec_load_one _ _ rfl ba (oa + i * 2) rfl _ Tryd.underlying3 rfl _ ((hS.cell (p := ⟨ba, oa + i * 2, none⟩) hba).trans HC1.out)) ?_
          simp only [Act.put, List.setIfInBounds_toArray, List.set_cons_zero, List.set_cons_succ]
          refine qw_val (v := .slice (some ⟨bb, ob, none⟩) n cb) 21 rfl (by kernel_rfl) (fun w' hS => exec_move _ rfl (.slice (some ⟨bb, ob, none⟩) n cb) rfl) ?_
          simp only [Act.put, List.setIfInBounds_toArray, List.set_cons_zero, List.set_cons_succ]
          refine qw_val (v := .int .i64 ((i : Int))) 22 rfl (by kernel_rfl) (fun w' hS => exec_move _ rfl (.int .i64 ((i : Int))) rfl) ?_
          simp only [Act.put, List.setIfInBounds_toArray, List.set_cons_zero, List.set_cons_succ]
          refine qw_val (v := .pointer (some ⟨bb, ob + i * 2, none⟩)) 23 rfl (by kernel_rfl) (fun w' hS => exec_indexG _ _ _ rfl _ n cb bb ob 2 i rfl rfl rfl (by omega) (by kernel_rfl) _ (by omega)) ?_
          simp only [Act.put, List.setIfInBounds_toArray, List.set_cons_zero, List.set_cons_succ]
          refine qw_val (v := .pointer (some ⟨bb, ob + i * 2, none⟩)) 24 rfl (by kernel_rfl) (fun w' hS => exec_fieldG _ _ 0 0 rfl bb (ob + i * 2) rfl (by kernel_rfl) _ (by first | rfl | omega)) ?_
          simp only [Act.put, List.setIfInBounds_toArray, List.set_cons_zero, List.set_cons_succ]
          refine qw_val (v := .int .i64 Y) 25 rfl (by kernel_rfl) (fun w' hS => exec_load_one _ _ rfl bb (ob + i * 2) rfl _ Tryd.underlying3 rfl _ ((hS.cell (p := ⟨bb, ob + i * 2, none⟩) hbb).trans HD1.out)) ?_
          simp only [Act.put, List.setIfInBounds_toArray, List.set_cons_zero, List.set_cons_succ]
          refine qw_val (v := .bool false) 26 rfl (by kernel_rfl) (fun w' hS => exec_neq_i64 _ _ _ _ rfl X Y rfl rfl _ hne) ?_
          simp only [Act.put, List.setIfInBounds_toArray, List.set_cons_zero, List.set_cons_succ]
          refine qw_val (v := .bool false) 27 rfl (by kernel_rfl) (fun w' hS => exec_move _ rfl (.bool false) rfl) ?_
          simp only [Act.put, List.setIfInBounds_toArray, List.set_cons_zero, List.set_cons_succ]
          refine qw_val (v := .slice (some ⟨ba, oa, none⟩) n ca) 28 rfl (by kernel_rfl) (fun w' hS => exec_move _ rfl (.slice (some ⟨ba, oa, none⟩) n ca) rfl) ?_
          simp only [Act.put, List.setIfInBounds_toArray, List.set_cons_zero, List.set_cons_succ]
          refine qw_val (v := .int .i64 ((i : Int))) 29 rfl (by kernel_rfl) (fun w' hS => exec_move _ rfl (.int .i64 ((i : Int))) rfl) ?_
          simp only [Act.put, List.setIfInBounds_toArray, List.set_cons_zero, List.set_cons_succ]
          refine qw_val (v := .pointer (some ⟨ba, oa + i * 2, none⟩)) 30 rfl (by kernel_rfl) (fun w' hS => exec_indexG _ _ _ rfl _ n ca ba oa 2 i rfl rfl rfl (by omega) (by kernel_rfl) _ (by omega)) ?_
          simp only [Act.put, List.setIfInBounds_toArray, List.set_cons_zero, List.set_cons_succ]
          refine qw_val (v := .pointer (some ⟨ba, oa + i * 2 + 1, none⟩)) 31 rfl (by kernel_rfl) (fun w' hS => exec_fieldG _ _ 1 1 rfl ba (oa + i * 2) rfl (by kernel_rfl) _ (by first | rfl | omega)) ?_
          simp only [Act.put, List.setIfInBounds_toArray, List.set_cons_zero, List.set_cons_succ]
          refine qw_val (v := u) 32 rfl (by kernel_rfl) (fun w' hS => exec_load_one _ _ rfl ba (oa + i * 2 + 1) rfl _ Tryd.underlying26 rfl _ ((hS.cell (p := ⟨ba, oa + i * 2 + 1, none⟩) hba).trans HC2.out)) ?_
          simp only [Act.put, List.setIfInBounds_toArray, List.set_cons_zero, List.set_cons_succ]
          refine qw_val (v := .slice (some ⟨bb, ob, none⟩) n cb) 33 rfl (by kernel_rfl) (fun w' hS => exec_move _ rfl (.slice (some ⟨bb, ob, none⟩) n cb) rfl) ?_
          simp only [Act.put, List.setIfInBounds_toArray, List.set_cons_zero, List.set_cons_succ]
          refine qw_val (v := .int .i64 ((i : Int))) 34 rfl (by kernel_rfl) (fun w' hS => exec_move _ rfl (.int .i64 ((i : Int))) rfl) ?_
          simp only [Act.put, List.setIfInBounds_toArray, List.set_cons_zero, List.set_cons_succ]
          refine qw_val (v := .pointer (some ⟨bb, ob + i * 2, none⟩)) 35 rfl (by kernel_rfl) (fun w' hS => exec_indexG _ _ _ rfl _ n cb bb ob 2 i rfl rfl rfl (by omega) (by kernel_rfl) _ (by omega)) ?_
          simp only [Act.put, List.setIfInBounds_toArray, List.set_cons_zero, List.set_cons_succ]
          refine qw_val (v := .pointer (some ⟨bb, ob + i * 2 + 1, none⟩)) 36 rfl (by kernel_rfl) (fun w' hS => exec_fieldG _ _ 1 1 rfl bb (ob + i * 2) rfl (by kernel_rfl) _ (by first | rfl | omega)) ?_
          simp only [Act.put, List.setIfInBounds_toArray, List.set_cons_zero, List.set_cons_succ]
          refine qw_val (v := v) 37 rfl (by kernel_rfl) (fun w' hS => exec_load_one _ _ rfl bb (ob + i * 2 + 1) rfl _ Tryd.underlying26 rfl _ ((hS.cell (p := ⟨bb, ob + i * 2 + 1, none⟩) hbb).trans HD2.out)) ?_
          simp only [Act.put, List.setIfInBounds_toArray, List.set_cons_zero, List.set_cons_succ]
          refine qw_call (v := .bool true) 38 rfl (by kernel_rfl) 12 #[u, v] (fun w' => exec_call _ _ _ rfl _ (by simp [Act.eval]) (by go_simp)) (fun w' hS => HSM.out w' hS) ?_
          simp only [Act.put, List.setIfInBounds_toArray, List.set_cons_zero, List.set_cons_succ]
          refine qw_val (v := .bool false) 39 rfl (by kernel_rfl) (fun w' hS => exec_notG _ _ rfl true rfl _ rfl) ?_
          simp only [Act.put, List.setIfInBounds_toArray, List.set_cons_zero, List.set_cons_succ]
          refine qw_val (v := .bool false) 40 rfl (by kernel_rfl) (fun w' hS => exec_pickG _ _ _ rfl false rfl _ rfl) ?_
          simp only [Act.put, List.setIfInBounds_toArray, List.set_cons_zero, List.set_cons_succ]
          refine qw_nil ?_
          intro w2 hS
          have HB2 := hide hS
          clear hS
          go_wp2_with fail
          go_roundw
          case measure => simp [intOf]; omega
          case rel => exact ⟨i + 1, by go_num, by omega, HTK.out, HB2.out⟩
        · have HSM := hide (fun (w' : World) (hS : Below B w w') => by have := HSAME.out w' hS; rw [decide_eq_false hxy] at this; exact this)
          have HNO := hide (HDIF.out (fun h => hxy (by injection h)))
          clear HSAME hXY hxy HDIF HSN HSM2
          go_upto_region 6 with fail
          refine wp_region_qw (Below B w) (by kernel_rfl) (by kernel_rfl) HB.out.drew ?_
          refine qw_val (v := .slice (some ⟨ba, oa, none⟩) n ca) 16 rfl (by kernel_rfl) (fun w' hS => exec_move _ rfl (.slice (some ⟨ba, oa, none⟩) n ca) rfl) ?_
          simp only [Act.put, List.setIfInBounds_toArray, List.set_cons_zero, List.set_cons_succ]
          refine qw_val (v := .int .i64 ((i : Int))) 17 rfl (by kernel_rfl) (fun w' hS => exec_move _ rfl (.int .i64 ((i : Int))) rfl) ?_
          simp only [Act.put, List.setIfInBounds_toArray, List.set_cons_zero, List.set_cons_succ]
          refine qw_val (v := .pointer (some ⟨ba, oa + i * 2, none⟩)) 18 rfl (by kernel_rfl) (fun w' hS => exec_indexG _ _ _ rfl _ n ca ba oa 2 i rfl rfl rfl (by omega) (by kernel_rfl) _ (by omega)) ?_
          simp only [Act.put, List.setIfInBounds_toArray, List.set_cons_zero, List.set_cons_succ]
          refine qw_val (v := .pointer (some ⟨ba, oa + i * 2, none⟩)) 19 rfl (by kernel_rfl) (fun w' hS => exec_fieldG _ _ 0 0 rfl ba (oa + i * 2) rfl (by kernel_rfl) _ (by first | rfl | omega)) ?_
          simp only [Act.put, List.setIfInBounds_toArray, List.set_cons_zero, List.set_cons_succ]
          refine qw_val (v := .int .i64 X) 20 rfl (by kernel_rfl) (fun w' hS => exec_load_one _ _ rfl ba (oa + i * 2) rfl _ Tryd.underlying3 rfl _ ((hS.cell (p := ⟨ba, oa + i * 2, none⟩) hba).trans HC1.out)) ?_
          simp only [Act.put, List.setIfInBounds_toArray, List.set_cons_zero, List.set_cons_succ]
          refine qw_val (v := .slice (some ⟨bb, ob, none⟩) n cb) 21 rfl (by kernel_rfl) (fun w' hS => exec_move _ rfl (.slice (some ⟨bb, ob, none⟩) n cb) rfl) ?_
          simp only [Act.put, List.setIfInBounds_toArray, List.set_cons_zero, List.set_cons_succ]
          refine qw_val (v := .int .i64 ((i : Int))) 22 rfl (by kernel_rfl) (fun w' hS => exec_move _ rfl (.int .i64 ((i : Int))) rfl) ?_
          simp only [Act.put, List.setIfInBounds_toArray, List.set_cons_zero, List.set_cons_succ]
          refine qw_val (v := .pointer (some ⟨bb, ob + i * 2, none⟩)) 23 rfl (by kernel_rfl) (fun w' hS => exec_indexG _ _ _ rfl _ n cb bb ob 2 i rfl rfl rfl (by omega) (by kernel_rfl) _ (by omega)) ?_
          simp only [Act.put, List.setIfInBounds_toArray, List.set_cons_zero, List.set_cons_succ]
          refine qw_val (v := .pointer (some ⟨bb, ob + i * 2, none⟩)) 24 rfl (by kernel_rfl) (fun w' hS => exec_fieldG _ _ 0 0 rfl bb (ob + i * 2) rfl (by kernel_rfl) _ (by first | rfl | omega)) ?_
          simp only [Act.put, List.setIfInBounds_toArray, List.set_cons_zero, List.set_cons_succ]
          refine qw_val (v := .int .i64 Y) 25 rfl (by kernel_rfl) (fun w' hS => exec_load_one _ _ rfl bb (ob + i * 2) rfl _ Tryd.underlying3 rfl _ ((hS.cell (p := ⟨bb, ob + i * 2, none⟩) hbb).trans HD1.out)) ?_
          simp only [Act.put, List.setIfInBounds_toArray, List.set_cons_zero, List.set_cons_succ]
          refine qw_val (v := .bool false) 26 rfl (by kernel_rfl) (fun w' hS => exec_neq_i64 _ _ _ _ rfl X Y rfl rfl _ hne) ?_
          simp only [Act.put, List.setIfInBounds_toArray, List.set_cons_zero, List.set_cons_succ]
          refine qw_val (v := .bool false) 27 rfl (by kernel_rfl) (fun w' hS => exec_move _ rfl (.bool false) rfl) ?_
          simp only [Act.put, List.setIfInBounds_toArray, List.set_cons_zero, List.set_cons_succ]
          refine qw_val (v := .slice (some ⟨ba, oa, none⟩) n ca) 28 rfl (by kernel_rfl) (fun w' hS => exec_move _ rfl (.slice (some ⟨ba, oa, none⟩) n ca) rfl) ?_
          simp only [Act.put, List.setIfInBounds_toArray, List.set_cons_zero, List.set_cons_succ]
          refine qw_val (v := .int .i64 ((i : Int))) 29 rfl (by kernel_rfl) (fun w' hS => exec_move _ rfl (.int .i64 ((i : Int))) rfl) ?_
          simp only [Act.put, List.setIfInBounds_toArray, List.set_cons_zero, List.set_cons_succ]
          refine qw_val (v := .pointer (some ⟨ba, oa + i * 2, none⟩)) 30 rfl (by kernel_rfl) (fun w' hS => exec_indexG _ _ _ rfl _ n ca ba oa 2 i rfl rfl rfl (by omega) (by kernel_rfl) _ (by omega)) ?_
          simp only [Act.put, List.setIfInBounds_toArray, List.set_cons_zero, List.set_cons_succ]
          refine qw_val (v := .pointer (some ⟨ba, oa + i * 2 + 1, none⟩)) 31 rfl (by kernel_rfl) (fun w' hS => exec_fieldG _ _ 1 1 rfl ba (oa + i * 2) rfl (by kernel_rfl) _ (by first | rfl | omega)) ?_
          simp only [Act.put, List.setIfInBounds_toArray, List.set_cons_zero, List.set_cons_succ]
          refine qw_val (v := u) 32 rfl (by kernel_rfl) (fun w' hS => exec_load_one _ _ rfl ba (oa + i * 2 + 1) rfl _ Tryd.underlying26 rfl _ ((hS.cell (p := ⟨ba, oa + i * 2 + 1, none⟩) hba).trans HC2.out)) ?_
          simp only [Act.put, List.setIfInBounds_toArray, List.set_cons_zero, List.set_cons_succ]
          refine qw_val (v := .slice (some ⟨bb, ob, none⟩) n cb) 33 rfl (by kernel_rfl) (fun w' hS => exec_move _ rfl (.slice (some ⟨bb, ob, none⟩) n cb) rfl) ?_
          simp only [Act.put, List.setIfInBounds_toArray, List.set_cons_zero, List.set_cons_succ]
          refine qw_val (v := .int .i64 ((i : Int))) 34 rfl (by kernel_rfl) (fun w' hS => exec_move _ rfl (.int .i64 ((i : Int))) rfl) ?_
          simp only [Act.put, List.setIfInBounds_toArray, List.set_cons_zero, List.set_cons_succ]
          refine qw_val (v := .pointer (some ⟨bb, ob + i * 2, none⟩)) 35 rfl (by kernel_rfl) (fun w' hS => exec_indexG _ _ _ rfl _ n cb bb ob 2 i rfl rfl rfl (by omega) (by kernel_rfl) _ (by omega)) ?_
          simp only [Act.put, List.setIfInBounds_toArray, List.set_cons_zero, List.set_cons_succ]
          refine qw_val (v := .pointer (some ⟨bb, ob + i * 2 + 1, none⟩)) 36 rfl (by kernel_rfl) (fun w' hS => exec_fieldG _ _ 1 1 rfl bb (ob + i * 2) rfl (by kernel_rfl) _ (by first | rfl | omega)) ?_
          simp only [Act.put, List.setIfInBounds_toArray, List.set_cons_zero, List.set_cons_succ]
          refine qw_val (v := v) 37 rfl (by kernel_rfl) (fun w' hS => exec_load_one _ _ rfl bb (ob + i * 2 + 1) rfl _ Tryd.underlying26 rfl _ ((hS.cell (p := ⟨bb, ob + i * 2 + 1, none⟩) hbb).trans HD2.out)) ?_
          simp only [Act.put, List.setIfInBounds_toArray, List.set_cons_zero, List.set_cons_succ]
          refine qw_call (v := .bool false) 38 rfl (by kernel_rfl) 12 #[u, v] (fun w' => exec_call _ _ _ rfl _ (by simp [Act.eval]) (by go_simp)) (fun w' hS => HSM.out w' hS) ?_
          simp only [Act.put, List.setIfInBounds_toArray, List.set_cons_zero, List.set_cons_succ]
          refine qw_val (v := .bool true) 39 rfl (by kernel_rfl) (fun w' hS => exec_notG _ _ rfl false rfl _ rfl) ?_
          simp only [Act.put, List.setIfInBounds_toArray, List.set_cons_zero, List.set_cons_succ]
          refine qw_val (v := .bool true) 40 rfl (by kernel_rfl) (fun w' hS => exec_pickG _ _ _ rfl false rfl _ rfl) ?_
          simp only [Act.put, List.setIfInBounds_toArray, List.set_cons_zero, List.set_cons_succ]
          refine qw_nil ?_
          intro w2 hS
          have HB2 := hide hS
          clear hS
          go_wp2_with fail
          go_ret
          exact ⟨by rw [HNO.out]; rfl, HB2.out⟩
      · have hne : (X != Y) = true := by simpa using hXY
        have HNO := hide (HDIF.out (fun h => hXY (by injection h)))
        clear HSAME hXY HDIF HSN HSM2
        go_upto_region 6 with fail
        refine wp_region_qw (Below B w) (by kernel_rfl) (by kernel_rfl) HB.out.drew ?_
        refine qw_val (v := .slice (some ⟨ba, oa, none⟩) n ca) 16 rfl (by kernel_rfl) (fun w' hS => exec_move _ rfl (.slice (some ⟨ba, oa, none⟩) n ca) rfl) ?_
        simp only [Act.put, List.setIfInBounds_toArray, List.set_cons_zero, List.set_cons_succ]
        refine qw_val (v := .int .i64 ((i : Int))) 17 rfl (by kernel_rfl) (fun w' hS => exec_move _ rfl (.int .i64 ((i : Int))) rfl) ?_
        simp only [Act.put, List.setIfInBounds_toArray, List.set_cons_zero, List.set_cons_succ]
        refine qw_val (v := .pointer (some ⟨ba, oa + i * 2, none⟩)) 18 rfl (by kernel_rfl) (fun w' hS => exec_indexG _ _ _ rfl _ n ca ba oa 2 i rfl rfl rfl (by omega) (by kernel_rfl) _ (by omega)) ?_
        simp only [Act.put, List.setIfInBounds_toArray, List.set_cons_zero, List.set_cons_succ]
        refine qw_val (v := .pointer (some ⟨ba, oa + i * 2, none⟩)) 19 rfl (by kernel_rfl) (fun w' hS => exec_fieldG _ _ 0 0 rfl ba (oa + i * 2) rfl (by kernel_rfl) _ (by first | rfl | omega)) ?_
        simp only [Act.put, List.setIfInBounds_toArray, List.set_cons_zero, List.set_cons_succ]
        refine qw_val (v := .int .i64 X) 20 rfl (by kernel_rfl) (fun w' hS => exec_load_one _ _ rfl ba (oa + i * 2) rfl _ Tryd.underlying3 rfl _ ((hS.cell (p := ⟨ba, oa + i * 2, none⟩) hba).trans HC1.out)) ?_
        simp only [Act.put, List.setIfInBounds_toArray, List.set_cons_zero, List.set_cons_succ]
        refine qw_val (v := .slice (some ⟨bb, ob, none⟩) n cb) 21 rfl (by kernel_rfl) (fun w' hS => exec_move _ rfl (.slice (some ⟨bb, ob, none⟩) n cb) rfl) ?_
        simp only [Act.put, List.setIfInBounds_toArray, List.set_cons_zero, List.set_cons_succ]
        refine qw_val (v := .int .i64 ((i : Int))) 22 rfl (by kernel_rfl) (fun w' hS => exec_move _ rfl (.int .i64 ((i : Int))) rfl) ?_
        simp only [Act.put, List.setIfInBounds_toArray, List.set_cons_zero, List.set_cons_succ]
        refine qw_val (v := .pointer (some ⟨bb, ob + i * 2, none⟩)) 23 rfl (by kernel_rfl) (fun w' hS => exec_indexG _ _ _ rfl _ n cb bb ob 2 i rfl rfl rfl (by omega) (by kernel_rfl) _ (by omega)) ?_
        simp only [Act.put, List.setIfInBounds_toArray, List.set_cons_zero, List.set_cons_succ]
        refine qw_val (v := .pointer (some ⟨bb, ob + i * 2, none⟩)) 24 rfl (by kernel_rfl) (fun w' hS => exec_fieldG _ _ 0 0 rfl bb (ob + i * 2) rfl (by kernel_rfl) _ (by first | rfl | omega)) ?_
        simp only [Act.put, List.setIfInBounds_toArray, List.set_cons_zero, List.set_cons_succ]
        refine qw_val (v := .int .i64 Y) 25 rfl (by kernel_rfl) (fun w' hS => exec_load_one _ _ rfl bb (ob + i * 2) rfl _ Tryd.underlying3 rfl _ ((hS.cell (p := ⟨bb, ob + i * 2, none⟩) hbb).trans HD1.out)) ?_
        simp only [Act.put, List.setIfInBounds_toArray, List.set_cons_zero, List.set_cons_succ]
        refine qw_val (v := .bool true) 26 rfl (by kernel_rfl) (fun w' hS => exec_neq_i64 _ _ _ _ rfl X Y rfl rfl _ hne) ?_
        simp only [Act.put, List.setIfInBounds_toArray, List.set_cons_zero, List.set_cons_succ]
        refine qw_val (v := .bool true) 27 rfl (by kernel_rfl) (fun w' hS => exec_move _ rfl (.bool true) rfl) ?_
        simp only [Act.put, List.setIfInBounds_toArray, List.set_cons_zero, List.set_cons_succ]
        refine qw_skip 28 rfl (by kernel_rfl) ?_
        simp only [Act.put, List.setIfInBounds_toArray, List.set_cons_zero, List.set_cons_succ]
        refine qw_skip 29 rfl (by kernel_rfl) ?_
        simp only [Act.put, List.setIfInBounds_toArray, List.set_cons_zero, List.set_cons_succ]
        refine qw_skip 30 rfl (by kernel_rfl) ?_
        simp only [Act.put, List.setIfInBounds_toArray, List.set_cons_zero, List.set_cons_succ]
        refine qw_skip 31 rfl (by kernel_rfl) ?_
        simp only [Act.put, List.setIfInBounds_toArray, List.set_cons_zero, List.set_cons_succ]
        refine qw_skip 32 rfl (by kernel_rfl) ?_
        simp only [Act.put, List.setIfInBounds_toArray, List.set_cons_zero, List.set_cons_succ]
        refine qw_skip 33 rfl (by kernel_rfl) ?_
        simp only [Act.put, List.setIfInBounds_toArray, List.set_cons_zero, List.set_cons_succ]
        refine qw_skip 34 rfl (by kernel_rfl) ?_
        simp only [Act.put, List.setIfInBounds_toArray, List.set_cons_zero, List.set_cons_succ]
        refine qw_skip 35 rfl (by kernel_rfl) ?_
        simp only [Act.put, List.setIfInBounds_toArray, List.set_cons_zero, List.set_cons_succ]
        refine qw_skip 36 rfl (by kernel_rfl) ?_
        simp only [Act.put, List.setIfInBounds_toArray, List.set_cons_zero, List.set_cons_succ]
        refine qw_skip 37 rfl (by kernel_rfl) ?_
        simp only [Act.put, List.setIfInBounds_toArray, List.set_cons_zero, List.set_cons_succ]
        refine qw_skip 38 rfl (by kernel_rfl) ?_
        simp only [Act.put, List.setIfInBounds_toArray, List.set_cons_zero, List.set_cons_succ]
        refine qw_skip 39 rfl (by kernel_rfl) ?_
        simp only [Act.put, List.setIfInBounds_toArray, List.set_cons_zero, List.set_cons_succ]
        refine qw_val (v := .bool true) 40 rfl (by kernel_rfl) (fun w' hS => exec_pickG _ _ _ rfl true rfl _ rfl) ?_
        simp only [Act.put, List.setIfInBounds_toArray, List.set_cons_zero, List.set_cons_succ]
        refine qw_nil ?_
        intro w2 hS
        have HB2 := hide hS
        clear hS
        go_wp2_with fail
        go_ret
        exact ⟨by rw [HNO.out]; rfl, HB2.out⟩
    · have hlt' : ¬ (i : Int) < (n : Int) := by omega
      have HYES := hide (show R = true by
        rw [← HR.out]
        refine decide_eq_true ?_
        have h := HT.out
        rwa [List.take_of_length_le (by rw [HN.out]; omega), List.take_of_length_le (by rw [HM.out]; omega)] at h)
      go_wp2_with fail
      go_ret
      exact ⟨by rw [HYES.out]; rfl, HB.out⟩
end Go.Proofs.YtfinfkodjkfibaaDoor
