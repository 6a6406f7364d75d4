/- aumbrykeep.Blobs: are they the same blobs? No condition.
aumbrykeep.Same at tests, aumbrykeep.Request: are they the same? No condition.
aumbrykeep.Request: are they the same request? No condition. -/
import Derived.Test.YtfinfkodjkfibaaDoorBlobs
import Derived.Test.YtfinfkodjkfibaaDoorKeep
import Derived.Test.YtfinfkodjkfibaaDoorSym
import Derived.Deep.DeepCutAuto
import Derived.Test.YtfinfkodjkfibaaDoorTstAll
namespace Go.Proofs.YtfinfkodjkfibaaDoor
open Go Go.RowKit
set_option linter.unusedVariables false
set_option linter.unusedSimpArgs false
set_option maxRecDepth 100000
set_option maxHeartbeats 4000000
theorem keep_blobs (va vb : Value) (la lb : List Msg.Blb) (w : World) (B : Nat) (hB : B ≤ w.heap.size) (ha : BlbsB w B va la) (hb : BlbsB w B vb lb) :
    Calls Tryd.prog 15 #[va, vb] w fun e w' => e = .returned (.bool (decide (la = lb))) ∧ Below B w w' := by
  obtain ⟨A, ca, rfl, h1, h2, h3⟩ := ha.open_
  obtain ⟨A', cb, rfl, h1', h2', h3'⟩ := hb.open_
  unfold maxLen at h2 h2'
  have HA := hide h3
  have HA' := hide h3'
  obtain ⟨n, HN⟩ : ∃ n, Hid (la.length = n) := ⟨_, hide rfl⟩
  obtain ⟨m, HM⟩ : ∃ n, Hid (lb.length = n) := ⟨_, hide rfl⟩
  obtain ⟨R, HR⟩ : ∃ r, Hid (decide (la = lb) = r) := ⟨_, hide rfl⟩
  rw [HR.out]
  have HBe := hide (Below.refl B w)
  rw [HN.out] at h1 ⊢
  rw [HM.out] at h1' ⊢
  clear h3 h3' ha hb
  by_cases hnm : n = m
  case neg =>
    have HNO := hide (show R = false by rw [← HR.out]; exact decide_eq_false (fun h => hnm (by rw [← HN.out, ← HM.out, h])))
    have hne : ((n : Int) != (m : Int)) = true := by simp; omega
    clear hnm
    go_enter Tryd.func15, Tryd.ntmps15
    go_wp2_with fail
    go_ret
    exact ⟨by rw [HNO.out]; rfl, HBe.out⟩
  subst hnm
  have hne0 : ((n : Int) != (n : Int)) = false := by simp
  have HT0 := hide (show la.take 0 = lb.take 0 by simp)
  go_enter Tryd.func15, Tryd.ntmps15
  go_wp2_with fail
  go_loopw [13] (fun v13 wr => ∃ i : Nat, v13 = .int .i64 (i : Int) ∧ i ≤ n ∧ la.take i = lb.take i ∧ Below B w wr) (fun v13 _ => n - (intOf v13).toNat)
  case atStart => exact ⟨0, by go_num, by omega, HT0.out, HBe.out⟩
  case round =>
    obtain ⟨i, rfl, hin, ht, hbel⟩ := hrel
    have HT := hide ht
    have HB := hide hbel
    have hws := hbel.size
    clear ht hbel
    by_cases hlt : i < n
    · have hlt' : (i : Int) < (n : Int) := by omega
      obtain ⟨ba, oa, rfl, hba, hca⟩ := HA.out (by rw [HN.out]; omega)
      obtain ⟨bb, ob, rfl, hbb, hcb⟩ := HA'.out (by rw [HM.out]; omega)
      obtain ⟨hc1, u, hc2, hu⟩ := hca i (by rw [HN.out]; exact hlt)
      obtain ⟨hd1, v, hd2, hv⟩ := hcb i (by rw [HM.out]; exact hlt)
      have HSN := hide (show la.take (i + 1) = la.take i ++ [la[i]'(by rw [HN.out]; exact hlt)] from List.take_succ_eq_append_getElem _)
      have HSM2 := hide (show lb.take (i + 1) = lb.take i ++ [lb[i]'(by rw [HM.out]; exact hlt)] from List.take_succ_eq_append_getElem _)
      have HDIF := hide (show la[i]'(by rw [HN.out]; exact hlt) ≠ lb[i]'(by rw [HM.out]; exact hlt) → R = false from fun h => by
        rw [← HR.out]
        refine decide_eq_false (fun e => h ?_)
        subst e; rfl)
      obtain ⟨x, HX⟩ : ∃ x, Hid (la[i]'(by rw [HN.out]; exact hlt) = x) := ⟨_, hide rfl⟩
      obtain ⟨y, HY⟩ : ∃ x, Hid (lb[i]'(by rw [HM.out]; exact hlt) = x) := ⟨_, hide rfl⟩
      rw [HX.out] at hc1 hu HSN HDIF
      rw [HY.out] at hd1 hv HSM2 HDIF
      obtain ⟨X, x2⟩ := x
      obtain ⟨Y, y2⟩ := y
      simp only at hc1 hd1 hu hv
      have HC1 := hide hc1
      have HC2 := hide hc2
      have HD1 := hide hd1
      have HD2 := hide hd2
      have HSAME := hide (fun (w' : World) (hS : Below B w w') => (same_bytes u v x2 y2 w' B (hu.below hS (Nat.le_refl _)) (hv.below hS (Nat.le_refl _)) (Nat.le_trans hB hS.size)).mono (fun e w'' hh => (⟨hh.1, hS.trans (hh.2.mono (Nat.le_trans hB hS.size))⟩ : e = .returned (.bool (decide (x2 = y2))) ∧ Below B w w'')))
      clear hc1 hc2 hd1 hd2 hca hcb hu hv HX HY
      by_cases hXY : X = Y
      · have hne : (X != Y) = false := by simpa using hXY
        by_cases hxy : x2 = y2
        · have HSM := hide (fun (w' : World) (hS : Below B w w') => by have := HSAME.out w' hS; rw [decide_eq_true hxy] at this; exact this)
          have HTK := hide (show la.take (i + 1) = lb.take (i + 1) by rw [HSN.out, HSM2.out, HT.out, hXY, hxy])
          clear HSAME hXY hxy HDIF HSN HSM2
          go_upto_region 6 with fail
          refine wp_region_qw (Below B w) (by kernel_rfl) (by kernel_rfl) HB.out.drew ?_
          refine qw_val (v := .slice (some ⟨ba, oa, none⟩) n ca) 16 rfl (by kernel_rfl) (fun w' hS => exec_move _ rfl (.slice (some ⟨ba, oa, none⟩) n ca) rfl) ?_
          simp only [Act.put, List.setIfInBounds_toArray, List.set_cons_zero, List.set_cons_succ]
          refine qw_val (v := .int .i64 ((i : Int))) 17 rfl (by kernel_rfl) (fun w' hS => exec_move _ rfl (.int .i64 ((i : Int))) rfl) ?_
          simp only [Act.put, List.setIfInBounds_toArray, List.set_cons_zero, List.set_cons_succ]
          refine qw_val (v := .pointer (some ⟨ba, oa + i * 2, none⟩)) 18 rfl (by kernel_rfl) (fun w' hS => exec_indexG _ _ _ rfl _ n ca ba oa 2 i rfl rfl rfl (by omega) (by kernel_rfl) _ (by omega)) ?_
          simp only [Act.put, List.setIfInBounds_toArray, List.set_cons_zero, List.set_cons_succ]
          refine qw_val (v := .pointer (some ⟨ba, oa + i * 2, none⟩)) 19 rfl (by kernel_rfl) (fun w' hS => exec_fieldG _ _ 0 0 rfl ba (oa + i * 2) rfl (by kernel_rfl) _ (by first | rfl | omega)) ?_
          simp only [Act.put, List.setIfInBounds_toArray, List.set_cons_zero, List.set_cons_succ]
          refine qw_val (v := .int .i64 X) 20 rfl (by kernel_rfl) (fun w' hS => exec_load_one _ _ rfl ba (oa + i * 2) rfl _ Tryd.underlying3 rfl _ ((hS.cell (p := ⟨ba, oa + i * 2, none⟩) hba).trans HC1.out)) ?_
          simp only [Act.put, List.setIfInBounds_toArray, List.set_cons_zero, List.set_cons_succ]
          refine qw_val (v := .slice (some ⟨bb, ob, none⟩) n cb) 21 rfl (by kernel_rfl) (fun w' hS => exec_move _ rfl (.slice (some ⟨bb, ob, none⟩) n cb) rfl) ?_
          simp only [Act.put, List.setIfInBounds_toArray, List.set_cons_zero, List.set_cons_succ]
          refine qw_val (v := .int .i64 ((i : Int))) 22 rfl (by kernel_rfl) (fun w' hS => exec_move _ rfl (.int .i64 ((i : Int))) rfl) ?_
          simp only [Act.put, List.setIfInBounds_toArray, List.set_cons_zero, List.set_cons_succ]
          refine qw_val (v := .pointer (some ⟨bb, ob + i * 2, none⟩)) 23 rfl (by kernel_rfl) (fun w' hS => exec_indexG _ _ _ rfl _ n cb bb ob 2 i rfl rfl rfl (by omega) (by kernel_rfl) _ (by omega)) ?_
          simp only [Act.put, List.setIfInBounds_toArray, List.set_cons_zero, List.set_cons_succ]
          refine qw_val (v := .pointer (some ⟨bb, ob + i * 2, none⟩)) 24 rfl (by kernel_rfl) (fun w' hS => exec_fieldG _ _ 0 0 rfl bb (ob + i * 2) rfl (by kernel_rfl) _ (by first | rfl | omega)) ?_
          simp only [Act.put, List.setIfInBounds_toArray, List.set_cons_zero, List.set_cons_succ]
          refine qw_val (v := .int .i64 Y) 25 rfl (by kernel_rfl) (fun w' hS => exec_load_one _ _ rfl bb (ob + i * 2) rfl _ Tryd.underlying3 rfl _ ((hS.cell (p := ⟨bb, ob + i * 2, none⟩) hbb).trans HD1.out)) ?_
          simp only [Act.put, List.setIfInBounds_toArray, List.set_cons_zero, List.set_cons_succ]
          refine qw_val (v := .bool false) 26 rfl (by kernel_rfl) (fun w' hS => exec_neq_i64 _ _ _ _ rfl X Y rfl rfl _ hne) ?_
          simp only [Act.put, List.setIfInBounds_toArray, List.set_cons_zero, List.set_cons_succ]
          refine qw_val (v := .bool false) 27 rfl (by kernel_rfl) (fun w' hS => exec_move _ rfl (.bool false) rfl) ?_
          simp only [Act.put, List.setIfInBounds_toArray, List.set_cons_zero, List.set_cons_succ]
          refine qw_val (v := .slice (some ⟨ba, oa, none⟩) n ca) 28 rfl (by kernel_rfl) (fun w' hS => exec_move _ rfl (.slice (some ⟨ba, oa, none⟩) n ca) rfl) ?_
          simp only [Act.put, List.setIfInBounds_toArray, List.set_cons_zero, List.set_cons_succ]
          refine qw_val (v := .int .i64 ((i : Int))) 29 rfl (by kernel_rfl) (fun w' hS => exec_move _ rfl (.int .i64 ((i : Int))) rfl) ?_
          simp only [Act.put, List.setIfInBounds_toArray, List.set_cons_zero, List.set_cons_succ]
          refine qw_val (v := .pointer (some ⟨ba, oa + i * 2, none⟩)) 30 rfl (by kernel_rfl) (fun w' hS => exec_indexG _ _ _ rfl _ n ca ba oa 2 i rfl rfl rfl (by omega) (by kernel_rfl) _ (by omega)) ?_
          simp only [Act.put, List.setIfInBounds_toArray, List.set_cons_zero, List.set_cons_succ]
          refine qw_val (v := .pointer (some ⟨ba, oa + i * 2 + 1, none⟩)) 31 rfl (by kernel_rfl) (fun w' hS => exec_fieldG _ _ 1 1 rfl ba (oa + i * 2) rfl (by kernel_rfl) _ (by first | rfl | omega)) ?_
          simp only [Act.put, List.setIfInBounds_toArray, List.set_cons_zero, List.set_cons_succ]
          refine qw_val (v := u) 32 rfl (by kernel_rfl) (fun w' hS => exec_load_one _ _ rfl ba (oa + i * 2 + 1) rfl _ Tryd.underlying26 rfl _ ((hS.cell (p := ⟨ba, oa + i * 2 + 1, none⟩) hba).trans HC2.out)) ?_
          simp only [Act.put, List.setIfInBounds_toArray, List.set_cons_zero, List.set_cons_succ]
          refine qw_val (v := .slice (some ⟨bb, ob, none⟩) n cb) 33 rfl (by kernel_rfl) (fun w' hS => exec_move _ rfl (.slice (some ⟨bb, ob, none⟩) n cb) rfl) ?_
          simp only [Act.put, List.setIfInBounds_toArray, List.set_cons_zero, List.set_cons_succ]
          refine qw_val (v := .int .i64 ((i : Int))) 34 rfl (by kernel_rfl) (fun w' hS => exec_move _ rfl (.int .i64 ((i : Int))) rfl) ?_
          simp only [Act.put, List.setIfInBounds_toArray, List.set_cons_zero, List.set_cons_succ]
          refine qw_val (v := .pointer (some ⟨bb, ob + i * 2, none⟩)) 35 rfl (by kernel_rfl) (fun w' hS => exec_indexG _ _ _ rfl _ n cb bb ob 2 i rfl rfl rfl (by omega) (by kernel_rfl) _ (by omega)) ?_
          simp only [Act.put, List.setIfInBounds_toArray, List.set_cons_zero, List.set_cons_succ]
          refine qw_val (v := .pointer (some ⟨bb, ob + i * 2 + 1, none⟩)) 36 rfl (by kernel_rfl) (fun w' hS => exec_fieldG _ _ 1 1 rfl bb (ob + i * 2) rfl (by kernel_rfl) _ (by first | rfl | omega)) ?_
          simp only [Act.put, List.setIfInBounds_toArray, List.set_cons_zero, List.set_cons_succ]
          refine qw_val (v := v) 37 rfl (by kernel_rfl) (fun w' hS => exec_load_one _ _ rfl bb (ob + i * 2 + 1) rfl _ Tryd.underlying26 rfl _ ((hS.cell (p := ⟨bb, ob + i * 2 + 1, none⟩) hbb).trans HD2.out)) ?_
          simp only [Act.put, List.setIfInBounds_toArray, List.set_cons_zero, List.set_cons_succ]
          refine qw_call (v := .bool true) 38 rfl (by kernel_rfl) 12 #[u, v] (fun w' => exec_call _ _ _ rfl _ (by simp [Act.eval]) (by go_simp)) (fun w' hS => HSM.out w' hS) ?_
          simp only [Act.put, List.setIfInBounds_toArray, List.set_cons_zero, List.set_cons_succ]
          refine qw_val (v := .bool false) 39 rfl (by kernel_rfl) (fun w' hS => exec_notG _ _ rfl true rfl _ rfl) ?_
          simp only [Act.put, List.setIfInBounds_toArray, List.set_cons_zero, List.set_cons_succ]
          refine qw_val (v := .bool false) 40 rfl (by kernel_rfl) (fun w' hS => exec_pickG _ _ _ rfl false rfl _ rfl) ?_
          simp only [Act.put, List.setIfInBounds_toArray, List.set_cons_zero, List.set_cons_succ]
          refine qw_nil ?_
          intro w2 hS
          have HB2 := hide hS
          clear hS
          go_wp2_with fail
          go_roundw
          case measure => simp [intOf]; omega
          case rel => exact ⟨i + 1, by go_num, by omega, HTK.out, HB2.out⟩
        · have HSM := hide (fun (w' : World) (hS : Below B w w') => by have := HSAME.out w' hS; rw [decide_eq_false hxy] at this; exact this)
          have HNO := hide (HDIF.out (fun h => hxy (by injection h)))
          clear HSAME hXY hxy HDIF HSN HSM2
          go_upto_region 6 with fail
          refine wp_region_qw (Below B w) (by kernel_rfl) (by kernel_rfl) HB.out.drew ?_
          refine qw_val (v := .slice (some ⟨ba, oa, none⟩) n ca) 16 rfl (by kernel_rfl) (fun w' hS => exec_move _ rfl (.slice (some ⟨ba, oa, none⟩) n ca) rfl) ?_
          simp only [Act.put, List.setIfInBounds_toArray, List.set_cons_zero, List.set_cons_succ]
          refine qw_val (v := .int .i64 ((i : Int))) 17 rfl (by kernel_rfl) (fun w' hS => exec_move _ rfl (.int .i64 ((i : Int))) rfl) ?_
          simp only [Act.put, List.setIfInBounds_toArray, List.set_cons_zero, List.set_cons_succ]
          refine qw_val (v := .pointer (some ⟨ba, oa + i * 2, none⟩)) 18 rfl (by kernel_rfl) (fun w' hS => exec_indexG _ _ _ rfl _ n ca ba oa 2 i rfl rfl rfl (by omega) (by kernel_rfl) _ (by omega)) ?_
          simp only [Act.put, List.setIfInBounds_toArray, List.set_cons_zero, List.set_cons_succ]
          refine qw_val (v := .pointer (some ⟨ba, oa + i * 2, none⟩)) 19 rfl (by kernel_rfl) (fun w' hS => exec_fieldG _ _ 0 0 rfl ba (oa + i * 2) rfl (by kernel_rfl) _ (by first | rfl | omega)) ?_
          simp only [Act.put, List.setIfInBounds_toArray, List.set_cons_zero, List.set_cons_succ]
          refine qw_val (v := .int .i64 X) 20 rfl (by kernel_rfl) (fun w' hS => exec_load_one _ _ rfl ba (oa + i * 2) rfl _ Tryd.underlying3 rfl _ ((hS.cell (p := ⟨ba, oa + i * 2, none⟩) hba).trans HC1.out)) ?_
          simp only [Act.put, List.setIfInBounds_toArray, List.set_cons_zero, List.set_cons_succ]
          refine qw_val (v := .slice (some ⟨bb, ob, none⟩) n cb) 21 rfl (by kernel_rfl) (fun w' hS => exec_move _ rfl (.slice (some ⟨bb, ob, none⟩) n cb) rfl) ?_
          simp only [Act.put, List.setIfInBounds_toArray, List.set_cons_zero, List.set_cons_succ]
          refine qw_val (v := .int .i64 ((i : Int))) 22 rfl (by kernel_rfl) (fun w' hS => exec_move _ rfl (.int .i64 ((i : Int))) rfl) ?_
          simp only [Act.put, List.setIfInBounds_toArray, List.set_cons_zero, List.set_cons_succ]
          refine qw_val (v := .pointer (some ⟨bb, ob + i * 2, none⟩)) 23 rfl (by kernel_rfl) (fun w' hS => exec_indexG _ _ _ rfl _ n cb bb ob 2 i rfl rfl rfl (by omega) (by kernel_rfl) _ (by omega)) ?_
          simp only [Act.put, List.setIfInBounds_toArray, List.set_cons_zero, List.set_cons_succ]
          refine qw_val (v := .pointer (some ⟨bb, ob + i * 2, none⟩)) 24 rfl (by kernel_rfl) (fun w' hS => exec_fieldG _ _ 0 0 rfl bb (ob + i * 2) rfl (by kernel_rfl) _ (by first | rfl | omega)) ?_
          simp only [Act.put, List.setIfInBounds_toArray, List.set_cons_zero, List.set_cons_succ]
          refine qw_val (v := .int .i64 Y) 25 rfl (by kernel_rfl) (fun w' hS => exec_load_one _ _ rfl bb (ob + i * 2) rfl _ Tryd.underlying3 rfl _ ((hS.cell (p := ⟨bb, ob + i * 2, none⟩) hbb).trans HD1.out)) ?_
          simp only [Act.put, List.setIfInBounds_toArray, List.set_cons_zero, List.set_cons_succ]
          refine qw_val (v := .bool false) 26 rfl (by kernel_rfl) (fun w' hS => exec_neq_i64 _ _ _ _ rfl X Y rfl rfl _ hne) ?_
          simp only [Act.put, List.setIfInBounds_toArray, List.set_cons_zero, List.set_cons_succ]
          refine qw_val (v := .bool false) 27 rfl (by kernel_rfl) (fun w' hS => exec_move _ rfl (.bool false) rfl) ?_
          simp only [Act.put, List.setIfInBounds_toArray, List.set_cons_zero, List.set_cons_succ]
          refine qw_val (v := .slice (some ⟨ba, oa, none⟩) n ca) 28 rfl (by kernel_rfl) (fun w' hS => exec_move _ rfl (.slice (some ⟨ba, oa, none⟩) n ca) rfl) ?_
          simp only [Act.put, List.setIfInBounds_toArray, List.set_cons_zero, List.set_cons_succ]
          refine qw_val (v := .int .i64 ((i : Int))) 29 rfl (by kernel_rfl) (fun w' hS => exec_move _ rfl (.int .i64 ((i : Int))) rfl) ?_
          simp only [Act.put, List.setIfInBounds_toArray, List.set_cons_zero, List.set_cons_succ]
          refine qw_val (v := .pointer (some ⟨ba, oa + i * 2, none⟩)) 30 rfl (by kernel_rfl) (fun w' hS => exec_indexG _ _ _ rfl _ n ca ba oa 2 i rfl rfl rfl (by omega) (by kernel_rfl) _ (by omega)) ?_
          simp only [Act.put, List.setIfInBounds_toArray, List.set_cons_zero, List.set_cons_succ]
          refine qw_val (v := .pointer (some ⟨ba, oa + i * 2 + 1, none⟩)) 31 rfl (by kernel_rfl) (fun w' hS => exec_fieldG _ _ 1 1 rfl ba (oa + i * 2) rfl (by kernel_rfl) _ (by first | rfl | omega)) ?_
          simp only [Act.put, List.setIfInBounds_toArray, List.set_cons_zero, List.set_cons_succ]
          refine qw_val (v := u) 32 rfl (by kernel_rfl) (fun w' hS => exec_load_one _ _ rfl ba (oa + i * 2 + 1) rfl _ Tryd.underlying26 rfl _ ((hS.cell (p := ⟨ba, oa + i * 2 + 1, none⟩) hba).trans HC2.out)) ?_
          simp only [Act.put, List.setIfInBounds_toArray, List.set_cons_zero, List.set_cons_succ]
          refine qw_val (v := .slice (some ⟨bb, ob, none⟩) n cb) 33 rfl (by kernel_rfl) (fun w' hS => exec_move _ rfl (.slice (some ⟨bb, ob, none⟩) n cb) rfl) ?_
          simp only [Act.put, List.setIfInBounds_toArray, List.set_cons_zero, List.set_cons_succ]
          refine qw_val (v := .int .i64 ((i : Int))) 34 rfl (by kernel_rfl) (fun w' hS => exec_move _ rfl (.int .i64 ((i : Int))) rfl) ?_
          simp only [Act.put, List.setIfInBounds_toArray, List.set_cons_zero, List.set_cons_succ]
          refine qw_val (v := .pointer (some ⟨bb, ob + i * 2, none⟩)) 35 rfl (by kernel_rfl) (fun w' hS => exec_indexG _ _ _ rfl _ n cb bb ob 2 i rfl rfl rfl (by omega) (by kernel_rfl) _ (by omega)) ?_
          simp only [Act.put, List.setIfInBounds_toArray, List.set_cons_zero, List.set_cons_succ]
          refine qw_val (v := .pointer (some ⟨bb, ob + i * 2 + 1, none⟩)) 36 rfl (by kernel_rfl) (fun w' hS => exec_fieldG _ _ 1 1 rfl bb (ob + i * 2) rfl (by kernel_rfl) _ (by first | rfl | omega)) ?_
          simp only [Act.put, List.setIfInBounds_toArray, List.set_cons_zero, List.set_cons_succ]
          refine qw_val (v := v) 37 rfl (by kernel_rfl) (fun w' hS => exec_load_one _ _ rfl bb (ob + i * 2 + 1) rfl _ Tryd.underlying26 rfl _ ((hS.cell (p := ⟨bb, ob + i * 2 + 1, none⟩) hbb).trans HD2.out)) ?_
          simp only [Act.put, List.setIfInBounds_toArray, List.set_cons_zero, List.set_cons_succ]
          refine qw_call (v := .bool false) 38 rfl (by kernel_rfl) 12 #[u, v] (fun w' => exec_call _ _ _ rfl _ (by simp [Act.eval]) (by go_simp)) (fun w' hS => HSM.out w' hS) ?_
          simp only [Act.put, List.setIfInBounds_toArray, List.set_cons_zero, List.set_cons_succ]
          refine qw_val (v := .bool true) 39 rfl (by kernel_rfl) (fun w' hS => exec_notG _ _ rfl false rfl _ rfl) ?_
          simp only [Act.put, List.setIfInBounds_toArray, List.set_cons_zero, List.set_cons_succ]
          refine qw_val (v := .bool true) 40 rfl (by kernel_rfl) (fun w' hS => exec_pickG _ _ _ rfl false rfl _ rfl) ?_
          simp only [Act.put, List.setIfInBounds_toArray, List.set_cons_zero, List.set_cons_succ]
          refine qw_nil ?_
          intro w2 hS
          have HB2 := hide hS
          clear hS
          go_wp2_with fail
          go_ret
          exact ⟨by rw [HNO.out]; rfl, HB2.out⟩
      · have hne : (X != Y) = true := by simpa using hXY
        have HNO := hide (HDIF.out (fun h => hXY (by injection h)))
        clear HSAME hXY HDIF HSN HSM2
        go_upto_region 6 with fail
        refine wp_region_qw (Below B w) (by kernel_rfl) (by kernel_rfl) HB.out.drew ?_
        refine qw_val (v := .slice (some ⟨ba, oa, none⟩) n ca) 16 rfl (by kernel_rfl) (fun w' hS => exec_move _ rfl (.slice (some ⟨ba, oa, none⟩) n ca) rfl) ?_
        simp only [Act.put, List.setIfInBounds_toArray, List.set_cons_zero, List.set_cons_succ]
        refine qw_val (v := .int .i64 ((i : Int))) 17 rfl (by kernel_rfl) (fun w' hS => exec_move _ rfl (.int .i64 ((i : Int))) rfl) ?_
        simp only [Act.put, List.setIfInBounds_toArray, List.set_cons_zero, List.set_cons_succ]
        refine qw_val (v := .pointer (some ⟨ba, oa + i * 2, none⟩)) 18 rfl (by kernel_rfl) (fun w' hS => exec_indexG _ _ _ rfl _ n ca ba oa 2 i rfl rfl rfl (by omega) (by kernel_rfl) _ (by omega)) ?_
        simp only [Act.put, List.setIfInBounds_toArray, List.set_cons_zero, List.set_cons_succ]
        refine qw_val (v := .pointer (some ⟨ba, oa + i * 2, none⟩)) 19 rfl (by kernel_rfl) (fun w' hS => exec_fieldG _ _ 0 0 rfl ba (oa + i * 2) rfl (by kernel_rfl) _ (by first | rfl | omega)) ?_
        simp only [Act.put, List.setIfInBounds_toArray, List.set_cons_zero, List.set_cons_succ]
        refine qw_val (v := .int .i64 X) 20 rfl (by kernel_rfl) (fun w' hS => exec_load_one _ _ rfl ba (oa + i * 2) rfl _ Tryd.underlying3 rfl _ ((hS.cell (p := ⟨ba, oa + i * 2, none⟩) hba).trans HC1.out)) ?_
        simp only [Act.put, List.setIfInBounds_toArray, List.set_cons_zero, List.set_cons_succ]
        refine qw_val (v := .slice (some ⟨bb, ob, none⟩) n cb) 21 rfl (by kernel_rfl) (fun w' hS => exec_move _ rfl (.slice (some ⟨bb, ob, none⟩) n cb) rfl) ?_
        simp only [Act.put, List.setIfInBounds_toArray, List.set_cons_zero, List.set_cons_succ]
        refine qw_val (v := .int .i64 ((i : Int))) 22 rfl (by kernel_rfl) (fun w' hS => exec_move _ rfl (.int .i64 ((i : Int))) rfl) ?_
        simp only [Act.put, List.setIfInBounds_toArray, List.set_cons_zero, List.set_cons_succ]
        refine qw_val (v := .pointer (some ⟨bb, ob + i * 2, none⟩)) 23 rfl (by kernel_rfl) (fun w' hS => exec_indexG _ _ _ rfl _ n cb bb ob 2 i rfl rfl rfl (by omega) (by kernel_rfl) _ (by omega)) ?_
        simp only [Act.put, List.setIfInBounds_toArray, List.set_cons_zero, List.set_cons_succ]
        refine qw_val (v := .pointer (some ⟨bb, ob + i * 2, none⟩)) 24 rfl (by kernel_rfl) (fun w' hS => exec_fieldG _ _ 0 0 rfl bb (ob + i * 2) rfl (by kernel_rfl) _ (by first | rfl | omega)) ?_
        simp only [Act.put, List.setIfInBounds_toArray, List.set_cons_zero, List.set_cons_succ]
        refine qw_val (v := .int .i64 Y) 25 rfl (by kernel_rfl) (fun w' hS => exec_load_one _ _ rfl bb (ob + i * 2) rfl _ Tryd.underlying3 rfl _ ((hS.cell (p := ⟨bb, ob + i * 2, none⟩) hbb).trans HD1.out)) ?_
        simp only [Act.put, List.setIfInBounds_toArray, List.set_cons_zero, List.set_cons_succ]
        refine qw_val (v := .bool true) 26 rfl (by kernel_rfl) (fun w' hS => exec_neq_i64 _ _ _ _ rfl X Y rfl rfl _ hne) ?_
        simp only [Act.put, List.setIfInBounds_toArray, List.set_cons_zero, List.set_cons_succ]
        refine qw_val (v := .bool true) 27 rfl (by kernel_rfl) (fun w' hS => exec_move _ rfl (.bool true) rfl) ?_
        simp only [Act.put, List.setIfInBounds_toArray, List.set_cons_zero, List.set_cons_succ]
        refine qw_skip 28 rfl (by kernel_rfl) ?_
        simp only [Act.put, List.setIfInBounds_toArray, List.set_cons_zero, List.set_cons_succ]
        refine qw_skip 29 rfl (by kernel_rfl) ?_
        simp only [Act.put, List.setIfInBounds_toArray, List.set_cons_zero, List.set_cons_succ]
        refine qw_skip 30 rfl (by kernel_rfl) ?_
        simp only [Act.put, List.setIfInBounds_toArray, List.set_cons_zero, List.set_cons_succ]
        refine qw_skip 31 rfl (by kernel_rfl) ?_
        simp only [Act.put, List.setIfInBounds_toArray, List.set_cons_zero, List.set_cons_succ]
        refine qw_skip 32 rfl (by kernel_rfl) ?_
        simp only [Act.put, List.setIfInBounds_toArray, List.set_cons_zero, List.set_cons_succ]
        refine qw_skip 33 rfl (by kernel_rfl) ?_
        simp only [Act.put, List.setIfInBounds_toArray, List.set_cons_zero, List.set_cons_succ]
        refine qw_skip 34 rfl (by kernel_rfl) ?_
        simp only [Act.put, List.setIfInBounds_toArray, List.set_cons_zero, List.set_cons_succ]
        refine qw_skip 35 rfl (by kernel_rfl) ?_
        simp only [Act.put, List.setIfInBounds_toArray, List.set_cons_zero, List.set_cons_succ]
        refine qw_skip 36 rfl (by kernel_rfl) ?_
        simp only [Act.put, List.setIfInBounds_toArray, List.set_cons_zero, List.set_cons_succ]
        refine qw_skip 37 rfl (by kernel_rfl) ?_
        simp only [Act.put, List.setIfInBounds_toArray, List.set_cons_zero, List.set_cons_succ]
        refine qw_skip 38 rfl (by kernel_rfl) ?_
        simp only [Act.put, List.setIfInBounds_toArray, List.set_cons_zero, List.set_cons_succ]
        refine qw_skip 39 rfl (by kernel_rfl) ?_
        simp only [Act.put, List.setIfInBounds_toArray, List.set_cons_zero, List.set_cons_succ]
        refine qw_val (v := .bool true) 40 rfl (by kernel_rfl) (fun w' hS => exec_pickG _ _ _ rfl true rfl _ rfl) ?_
        simp only [Act.put, List.setIfInBounds_toArray, List.set_cons_zero, List.set_cons_succ]
        refine qw_nil ?_
        intro w2 hS
        have HB2 := hide hS
        clear hS
        go_wp2_with fail
        go_ret
        exact ⟨by rw [HNO.out]; rfl, HB2.out⟩
    · have hlt' : ¬ (i : Int) < (n : Int) := by omega
      have HYES := hide (show R = true by
        rw [← HR.out]
        refine decide_eq_true ?_
        have h := HT.out
        rwa [List.take_of_length_le (by rw [HN.out]; omega), List.take_of_length_le (by rw [HM.out]; omega)] at h)
      go_wp2_with fail
      go_ret
      exact ⟨by rw [HYES.out]; rfl, HB.out⟩
end Go.Proofs.YtfinfkodjkfibaaDoor

namespace Go.Proofs.YtfinfkodjkfibaaDoor
open Go Go.RowKit
set_option linter.unusedVariables false
set_option linter.unusedSimpArgs false
set_option maxRecDepth 100000
theorem size_tst34 : (Tryd.prog.info? 60).map (·.size) = some 34 := by kernel_rfl
/-- Are the tests one by one the same? -/
def tstsEq (la lb : List Msg.Tst) : Bool := match la, lb with
  | [], [] => true
  | a :: la, b :: lb => tstEq a b && tstsEq la lb
  | _, _ => false
theorem tstsEq_iff : ∀ (la lb : List Msg.Tst), tstsEq la lb = true ↔ la = lb
  | [], [] => by simp [tstsEq]
  | a :: la, b :: lb => by simp [tstsEq, tstEq_iff, tstsEq_iff la lb]
  | [], b :: lb => by simp [tstsEq]
  | a :: la, [] => by simp [tstsEq]
theorem tstsEq_no {la lb : List Msg.Tst} (h : la ≠ lb) : tstsEq la lb = false := by
  rcases hq : tstsEq la lb with _ | _
  · rfl
  · exact absurd ((tstsEq_iff la lb).1 hq) h
set_option maxHeartbeats 4000000
theorem same_tests (va vb : Value) (la lb : List Msg.Tst) (w : World) (B : Nat) (hB : B ≤ w.heap.size) (ha : TstsB w B va la) (hb : TstsB w B vb lb) :
    Calls Tryd.prog 40 #[va, vb] w fun e w' => e = .returned (.bool (tstsEq la lb)) ∧ Below B w w' := by
  obtain ⟨A, ca, rfl, h1, h2, h3⟩ := ha.open_
  obtain ⟨A', cb, rfl, h1', h2', h3'⟩ := hb.open_
  unfold maxLen at h2 h2'
  have HA := hide h3
  have HA' := hide h3'
  have HWA := hide ha.2
  have HWB := hide hb.2
  obtain ⟨n, HN⟩ : ∃ n, Hid (la.length = n) := ⟨_, hide rfl⟩
  obtain ⟨m, HM⟩ : ∃ n, Hid (lb.length = n) := ⟨_, hide rfl⟩
  obtain ⟨R, HR⟩ : ∃ r, Hid (tstsEq la lb = r) := ⟨_, hide rfl⟩
  rw [HR.out]
  have HRY := hide (fun (_ : Nat) (h : la = lb) => show R = true from by rw [← HR.out]; exact (tstsEq_iff la lb).2 h)
  have HRN := hide (fun (_ : Nat) (h : la ≠ lb) => show R = false from by rw [← HR.out]; exact tstsEq_no h)
  have HBe := hide (Below.refl B w)
  rw [HN.out] at h1 ⊢
  rw [HM.out] at h1' ⊢
  clear h3 h3' ha hb HR
  by_cases hnm : n = m
  case neg =>
    have HNO := hide (HRN.out 0 (fun h => hnm (by rw [← HN.out, ← HM.out, h])))
    have hne : ((n : Int) != (m : Int)) = true := by simp; omega
    clear hnm
    go_enter Tryd.func40, Tryd.ntmps40
    go_wp2_with fail
    go_ret
    exact ⟨by rw [HNO.out]; rfl, HBe.out⟩
  subst hnm
  have hne0 : ((n : Int) != (n : Int)) = false := by simp
  have HT0 := hide (show la.take 0 = lb.take 0 by simp)
  go_enter Tryd.func40, Tryd.ntmps40
  go_wp2_with fail
  go_loopw [5] (fun v5 wr => ∃ i : Nat, v5 = .int .i64 (i : Int) ∧ i ≤ n ∧ la.take i = lb.take i ∧ Below B w wr) (fun v5 _ => n - (intOf v5).toNat)
  case atStart => exact ⟨0, by go_num, by omega, HT0.out, HBe.out⟩
  case round =>
    obtain ⟨i, rfl, hin, ht, hbel⟩ := hrel
    have HT := hide ht
    have HB := hide hbel
    have hws := hbel.size
    clear ht hbel
    by_cases hlt : i < n
    · have hlt' : (i : Int) < (n : Int) := by omega
      obtain ⟨ba, oa, rfl, hba, hca⟩ := HA.out (by rw [HN.out]; omega)
      obtain ⟨bb, ob, rfl, hbb, hcb⟩ := HA'.out (by rw [HM.out]; omega)
      have hc1 := hca i (by rw [HN.out]; exact hlt)
      have hd1 := hcb i (by rw [HM.out]; exact hlt)
      have HSN := hide (show la.take (i + 1) = la.take i ++ [la[i]'(by rw [HN.out]; exact hlt)] from List.take_succ_eq_append_getElem _)
      have HSM2 := hide (show lb.take (i + 1) = lb.take i ++ [lb[i]'(by rw [HM.out]; exact hlt)] from List.take_succ_eq_append_getElem _)
      have HDIF := hide (fun (_ : Nat) (h : la[i]'(by rw [HN.out]; exact hlt) ≠ lb[i]'(by rw [HM.out]; exact hlt)) => HRN.out 0 (fun e => h (by subst e; rfl)))
      have hwx := HWA.out _ (List.getElem_mem (show i < la.length by rw [HN.out]; exact hlt))
      have hwy := HWB.out _ (List.getElem_mem (show i < lb.length by rw [HM.out]; exact hlt))
      obtain ⟨x, HX⟩ : ∃ x, Hid (la[i]'(by rw [HN.out]; exact hlt) = x) := ⟨_, hide rfl⟩
      obtain ⟨y, HY⟩ : ∃ x, Hid (lb[i]'(by rw [HM.out]; exact hlt) = x) := ⟨_, hide rfl⟩
      rw [HX.out] at hc1 HSN HDIF hwx
      rw [HY.out] at hd1 HSM2 HDIF hwy
      have HC1 := hide hc1
      have HD1 := hide hd1
      have HXW := hide hwx
      have HYW := hide hwy
      have HX32 := hide (tst_len hwx)
      have HY32 := hide (tst_len hwy)
      clear hc1 hd1 hca hcb hwx hwy HX HY
      by_cases hxy : x = y
      · have HNE := hide (show (!tstEq x y) = false from by rw [(tstEq_iff x y).2 hxy]; rfl)
        have HTK := hide (show la.take (i + 1) = lb.take (i + 1) by rw [HSN.out, HSM2.out, HT.out, hxy])
        clear hxy HDIF HSN HSM2
        go_upto_region 6 with fail
        refine wp_region_qw (Below B w) (by kernel_rfl) (by kernel_rfl) HB.out.drew ?_
        refine qw_val (v := .slice (some ⟨ba, oa, none⟩) n ca) 17 rfl (by kernel_rfl) (fun w' hS => exec_move _ rfl (.slice (some ⟨ba, oa, none⟩) n ca) rfl) ?_
        simp only [Act.put, List.setIfInBounds_toArray, List.set_cons_zero, List.set_cons_succ]
        refine qw_val (v := .int .i64 ((i : Int))) 18 rfl (by kernel_rfl) (fun w' hS => exec_move _ rfl (.int .i64 ((i : Int))) rfl) ?_
        simp only [Act.put, List.setIfInBounds_toArray, List.set_cons_zero, List.set_cons_succ]
        refine qw_val (v := .pointer (some ⟨ba, oa + i * 34, none⟩)) 19 rfl (by kernel_rfl) (fun w' hS => exec_indexG _ _ _ rfl _ n ca ba oa 34 i rfl rfl rfl (by omega) (by kernel_rfl) _ (by omega)) ?_
        simp only [Act.put, List.setIfInBounds_toArray, List.set_cons_zero, List.set_cons_succ]
        refine qw_val (v := .agg (tstC x).toArray) 20 rfl (by kernel_rfl) (fun w' hS => exec_loadAll _ _ rfl ba (oa + i * 34) rfl _ _ (fun j v hj => (hS.cell (p := ⟨ba, oa + i * 34 + j, none⟩) hba).trans (HC1.out j v hj)) Tryd.underlying60 rfl (by rw [HX32.out]; exact size_tst34)) ?_
        simp only [Act.put, List.setIfInBounds_toArray, List.set_cons_zero, List.set_cons_succ]
        refine qw_val (v := .slice (some ⟨bb, ob, none⟩) n cb) 21 rfl (by kernel_rfl) (fun w' hS => exec_move _ rfl (.slice (some ⟨bb, ob, none⟩) n cb) rfl) ?_
        simp only [Act.put, List.setIfInBounds_toArray, List.set_cons_zero, List.set_cons_succ]
        refine qw_val (v := .int .i64 ((i : Int))) 22 rfl (by kernel_rfl) (fun w' hS => exec_move _ rfl (.int .i64 ((i : Int))) rfl) ?_
        simp only [Act.put, List.setIfInBounds_toArray, List.set_cons_zero, List.set_cons_succ]
        refine qw_val (v := .pointer (some ⟨bb, ob + i * 34, none⟩)) 23 rfl (by kernel_rfl) (fun w' hS => exec_indexG _ _ _ rfl _ n cb bb ob 34 i rfl rfl rfl (by omega) (by kernel_rfl) _ (by omega)) ?_
        simp only [Act.put, List.setIfInBounds_toArray, List.set_cons_zero, List.set_cons_succ]
        refine qw_val (v := .agg (tstC y).toArray) 24 rfl (by kernel_rfl) (fun w' hS => exec_loadAll _ _ rfl bb (ob + i * 34) rfl _ _ (fun j v hj => (hS.cell (p := ⟨bb, ob + i * 34 + j, none⟩) hbb).trans (HD1.out j v hj)) Tryd.underlying60 rfl (by rw [HY32.out]; exact size_tst34)) ?_
        simp only [Act.put, List.setIfInBounds_toArray, List.set_cons_zero, List.set_cons_succ]
        refine qw_val (v := .bool false) 25 rfl (by kernel_rfl) (fun w' hS => exec_neq_tst _ _ _ rfl x y HXW.out HYW.out rfl rfl false HNE.out) ?_
        simp only [Act.put, List.setIfInBounds_toArray, List.set_cons_zero, List.set_cons_succ]
        refine qw_nil ?_
        intro w2 hS
        have HB2 := hide hS
        clear hS
        go_wp2_with fail
        go_roundw
        case measure => simp [intOf]; omega
        case rel => exact ⟨i + 1, by go_num, by omega, HTK.out, HB2.out⟩
      · have HNE := hide (show (!tstEq x y) = true from by
          rcases hq : tstEq x y with _ | _
          · rfl
          · exact absurd ((tstEq_iff x y).1 hq) hxy)
        have HNO := hide (HDIF.out 0 hxy)
        clear hxy HDIF HSN HSM2
        go_upto_region 6 with fail
        refine wp_region_qw (Below B w) (by kernel_rfl) (by kernel_rfl) HB.out.drew ?_
        refine qw_val (v := .slice (some ⟨ba, oa, none⟩) n ca) 17 rfl (by kernel_rfl) (fun w' hS => exec_move _ rfl (.slice (some ⟨ba, oa, none⟩) n ca) rfl) ?_
        simp only [Act.put, List.setIfInBounds_toArray, List.set_cons_zero, List.set_cons_succ]
        refine qw_val (v := .int .i64 ((i : Int))) 18 rfl (by kernel_rfl) (fun w' hS => exec_move _ rfl (.int .i64 ((i : Int))) rfl) ?_
        simp only [Act.put, List.setIfInBounds_toArray, List.set_cons_zero, List.set_cons_succ]
        refine qw_val (v := .pointer (some ⟨ba, oa + i * 34, none⟩)) 19 rfl (by kernel_rfl) (fun w' hS => exec_indexG _ _ _ rfl _ n ca ba oa 34 i rfl rfl rfl (by omega) (by kernel_rfl) _ (by omega)) ?_
        simp only [Act.put, List.setIfInBounds_toArray, List.set_cons_zero, List.set_cons_succ]
        refine qw_val (v := .agg (tstC x).toArray) 20 rfl (by kernel_rfl) (fun w' hS => exec_loadAll _ _ rfl ba (oa + i * 34) rfl _ _ (fun j v hj => (hS.cell (p := ⟨ba, oa + i * 34 + j, none⟩) hba).trans (HC1.out j v hj)) Tryd.underlying60 rfl (by rw [HX32.out]; exact size_tst34)) ?_
        simp only [Act.put, List.setIfInBounds_toArray, List.set_cons_zero, List.set_cons_succ]
        refine qw_val (v := .slice (some ⟨bb, ob, none⟩) n cb) 21 rfl (by kernel_rfl) (fun w' hS => exec_move _ rfl (.slice (some ⟨bb, ob, none⟩) n cb) rfl) ?_
        simp only [Act.put, List.setIfInBounds_toArray, List.set_cons_zero, List.set_cons_succ]
        refine qw_val (v := .int .i64 ((i : Int))) 22 rfl (by kernel_rfl) (fun w' hS => exec_move _ rfl (.int .i64 ((i : Int))) rfl) ?_
        simp only [Act.put, List.setIfInBounds_toArray, List.set_cons_zero, List.set_cons_succ]
        refine qw_val (v := .pointer (some ⟨bb, ob + i * 34, none⟩)) 23 rfl (by kernel_rfl) (fun w' hS => exec_indexG _ _ _ rfl _ n cb bb ob 34 i rfl rfl rfl (by omega) (by kernel_rfl) _ (by omega)) ?_
        simp only [Act.put, List.setIfInBounds_toArray, List.set_cons_zero, List.set_cons_succ]
        refine qw_val (v := .agg (tstC y).toArray) 24 rfl (by kernel_rfl) (fun w' hS => exec_loadAll _ _ rfl bb (ob + i * 34) rfl _ _ (fun j v hj => (hS.cell (p := ⟨bb, ob + i * 34 + j, none⟩) hbb).trans (HD1.out j v hj)) Tryd.underlying60 rfl (by rw [HY32.out]; exact size_tst34)) ?_
        simp only [Act.put, List.setIfInBounds_toArray, List.set_cons_zero, List.set_cons_succ]
        refine qw_val (v := .bool true) 25 rfl (by kernel_rfl) (fun w' hS => exec_neq_tst _ _ _ rfl x y HXW.out HYW.out rfl rfl true HNE.out) ?_
        simp only [Act.put, List.setIfInBounds_toArray, List.set_cons_zero, List.set_cons_succ]
        refine qw_nil ?_
        intro w2 hS
        have HB2 := hide hS
        clear hS
        go_wp2_with fail
        go_ret
        exact ⟨by rw [HNO.out]; rfl, HB2.out⟩
    · have hlt' : ¬ (i : Int) < (n : Int) := by omega
      have HYES := hide (HRY.out 0 (by
        have h := HT.out
        rwa [List.take_of_length_le (by rw [HN.out]; omega), List.take_of_length_le (by rw [HM.out]; omega)] at h))
      go_wp2_with fail
      go_ret
      exact ⟨by rw [HYES.out]; rfl, HB.out⟩
end Go.Proofs.YtfinfkodjkfibaaDoor

namespace Go.Proofs.YtfinfkodjkfibaaDoor
open Go Go.RowKit
set_option linter.unusedVariables false
set_option linter.unusedSimpArgs false
set_option maxRecDepth 100000
/-- Are all parts the same? -/
def reqEq (a b : Msg.Req) : Bool := (a.kind == b.kind) && (decide (a.index = b.index) && (decide (a.secret = b.secret) && ((a.ends == b.ends) && (decide (a.enable = b.enable) && (tstsEq a.tests b.tests && decide (a.blobs = b.blobs))))))
theorem reqEq_iff (a b : Msg.Req) : reqEq a b = true ↔ a = b := by
  obtain ⟨a1, a2, a3, a4, a5, a6, a7⟩ := a
  obtain ⟨b1, b2, b3, b4, b5, b6, b7⟩ := b
  simp [reqEq, tstsEq_iff]
section
variable {ops : Array Oper} {rest : List Oper} {o : Oper} {a : Act} {w : World} {Q : Exit → Act → World → Prop}
theorem wpList_rq_eqlKey (x y : Operand) (t' : TypeId) (ho : o.op = .binOp .eql 28 x y t') (xs ys : List Int) (hx : a.eval x = .agg (u8s xs).toArray) (hy : a.eval y = .agg (u8s ys).toArray)
    (hw : Region.wanted o (yielded ops a.tmps) = true) (hxl : xs.length = 16) (hyl : ys.length = 16) (b : Bool) (hb : decide (xs = ys) = b)
    (h : wpList Tryd.prog ops Q rest (a.put o.dst (.bool b)) w) : wpList Tryd.prog ops Q (o :: rest) a w :=
  wpList_go hw fun _ hK => wp_value _ (by
    unfold execOp
    have := run_eql_arr (P := Tryd.prog) w Tryd.underlying28 Tryd.underlying5 (by kernel_rfl) xs ys hxl hyl
    rw [hb] at this
    simp only [ho, hx, hy, u8s, Sem.run_bind, run_eqGuard_agg w _ _ _ _ _ _ (show Tryd.prog.eqGuardType Tryd.prog.depth 28 = false by kernel_rfl), this, Result.andThen_ok, Sem.run_pure]) (hK _ _ h)
end
set_option maxHeartbeats 8000000 in
theorem keep_request (a b : Msg.Req) (ta ba tb bb : Value) (w : World) (ka : KeysR a) (kb : KeysR b) (hta : TstsB w w.heap.size ta a.tests) (hba : BlbsB w w.heap.size ba a.blobs) (htb : TstsB w w.heap.size tb b.tests) (hbb : BlbsB w w.heap.size bb b.blobs) :
    Calls Tryd.prog 22 #[.agg (reqCells a ta ba).toArray, .agg (reqCells b tb bb).toArray] w fun e w' => e = .returned (.bool (reqEq a b)) ∧ Below w.heap.size w w' := by
  have KA := hide ka
  have KB := hide kb
  obtain ⟨Ab, cb, rfl, _, _, _⟩ := hba.open_
  obtain ⟨Bb, db, rfl, _, _, _⟩ := hbb.open_
  have H1 := hide hta.one
  have H2 := hide htb.one
  have HTA := hide hta
  have HTB := hide htb
  have HBA := hide hba
  have HBB := hide hbb
  obtain ⟨VA, HVA⟩ : ∃ x, Hid (Value.agg (reqCells a ta (.slice Ab a.blobs.length cb)).toArray = x) := ⟨_, hide rfl⟩
  obtain ⟨VB, HVB⟩ : ∃ x, Hid (Value.agg (reqCells b tb (.slice Bb b.blobs.length db)).toArray = x) := ⟨_, hide rfl⟩
  rw [HVA.out, HVB.out]
  obtain ⟨q1, Q1⟩ : ∃ q, (a.kind == b.kind) = q := ⟨_, rfl⟩
  obtain ⟨q2, Q2⟩ : ∃ q, Hid (decide (a.index = b.index) = q) := ⟨_, hide rfl⟩
  obtain ⟨q3, Q3⟩ : ∃ q, Hid (decide (a.secret = b.secret) = q) := ⟨_, hide rfl⟩
  obtain ⟨q4, Q4⟩ : ∃ q, (a.ends == b.ends) = q := ⟨_, rfl⟩
  obtain ⟨q5, Q5⟩ : ∃ q, Hid (decide (a.enable = b.enable) = q) := ⟨_, hide rfl⟩
  obtain ⟨q6, Q6⟩ : ∃ q, Hid (tstsEq a.tests b.tests = q) := ⟨_, hide rfl⟩
  obtain ⟨q7, Q7⟩ : ∃ q, Hid (decide (a.blobs = b.blobs) = q) := ⟨_, hide rfl⟩
  have HV := hide (show reqEq a b = (q1 && (q2 && (q3 && (q4 && (q5 && (q6 && q7)))))) by rw [reqEq, Q1, Q2.out, Q3.out, Q4, Q5.out, Q6.out, Q7.out])
  obtain ⟨na, HNA⟩ : ∃ x, Hid (a.blobs.length = x) := ⟨_, hide rfl⟩
  obtain ⟨nb, HNB⟩ : ∃ x, Hid (b.blobs.length = x) := ⟨_, hide rfl⟩
  rw [HNA.out] at HVA HBA
  rw [HNB.out] at HVB HBB
  obtain ⟨g2, HG⟩ : ∃ k, Hid (w.heap.size = k) := ⟨_, hide rfl⟩
  clear ka kb hta htb hba hbb
  go_enter Tryd.func22, Tryd.ntmps22
  go_upto_region 1 with (first
    | (refine wpList_rq_box _ rfl (HVA.out.symm) rfl KA.out H1.out rfl ?_; intro w1 hb1 hw1 hs1; rw [HG.out] at hb1 hs1; try rw [HG.out]; have BA := hide hb1; have HW := hide hw1; clear hb1 hw1)
    | (refine wpList_rq_box _ rfl (HVB.out.symm) rfl KB.out H2.out rfl ?_; intro w2 hb2 hw2 hs2; rw [hs1] at hb2 hw2 hs2; try rw [hs1]; have BB := hide hb2; replace BA := hide (BA.out.below hw2 (by omega)); replace HW := hide (HW.out.trans (hw2.mono (by have := HG.out; omega))); clear hb2 hw2))
  have HST := hide (show Calls Tryd.prog 40 #[ta, tb] w2 (fun e w' => e = .returned (.bool q6) ∧ Below w2.heap.size w2 w') from by
    rw [← Q6.out]
    exact same_tests ta tb a.tests b.tests w2 w2.heap.size (Nat.le_refl _) ((HTA.out.below HW.out (Nat.le_refl _)).more HW.out.size) ((HTB.out.below HW.out (Nat.le_refl _)).more HW.out.size))
  have HKB := hide (fun (w' : World) (h : Below w.heap.size w w') => show Calls Tryd.prog 15 #[.slice Ab na cb, .slice Bb nb db] w' (fun e w'' => e = .returned (.bool q7) ∧ Below w'.heap.size w' w'') from by
    rw [← Q7.out]
    exact keep_blobs _ _ a.blobs b.blobs w' w'.heap.size (Nat.le_refl _) ((HBA.out.below h (Nat.le_refl _)).more h.size) ((HBB.out.below h (Nat.le_refl _)).more h.size))
  generalize hg3 : g2 + 1 = g3 at BB ⊢
  have hlt : g2 < w2.heap.size ∧ g3 < w2.heap.size := ⟨BA.out.lt, BB.out.lt⟩
  clear hs1 hs2 hg3 HTA HTB HBA HBB
  go_wp2_with (first
    | go_skip
    | (refine wpList_rq_kind _ rfl rfl rfl BA.out ?_)
    | (refine wpList_rq_kind _ rfl rfl rfl BB.out ?_)
    | (refine wpList_rq_ends _ rfl rfl rfl BA.out ?_)
    | (refine wpList_rq_ends _ rfl rfl rfl BB.out ?_)
    | (refine wpList_rq_index _ rfl rfl rfl BA.out ?_)
    | (refine wpList_rq_index _ rfl rfl rfl BB.out ?_)
    | (refine wpList_rq_secret _ rfl rfl rfl BA.out ?_)
    | (refine wpList_rq_secret _ rfl rfl rfl BB.out ?_)
    | (refine wpList_rq_enable _ rfl rfl rfl BA.out ?_)
    | (refine wpList_rq_enable _ rfl rfl rfl BB.out ?_)
    | (refine wpList_rq_tests _ rfl rfl rfl BA.out ?_)
    | (refine wpList_rq_tests _ rfl rfl rfl BB.out ?_)
    | (refine wpList_rq_blobs _ rfl rfl rfl BA.out ?_)
    | (refine wpList_rq_blobs _ rfl rfl rfl BB.out ?_)
    | (refine wpList_rq_eqlKey _ _ _ rfl a.index b.index rfl rfl rfl KA.out.i KB.out.i _ Q2.out ?_)
    | (refine wpList_rq_eqlKey _ _ _ rfl a.secret b.secret rfl rfl rfl KA.out.s KB.out.s _ Q3.out ?_)
    | (refine wpList_rq_eqlKey _ _ _ rfl a.enable b.enable rfl rfl rfl KA.out.e KB.out.e _ Q5.out ?_)
    | (go_at_call 40; refine HST.out.mono ?_; rintro e w3 ⟨rfl, hb3⟩; replace BA := hide (BA.out.below hb3 hlt.1); replace BB := hide (BB.out.below hb3 hlt.2); replace HW := hide (HW.out.trans (hb3.mono HW.out.size)); clear hb3)
    | (go_at_call 15; refine (HKB.out _ HW.out).mono ?_; rintro e w4 ⟨rfl, hb4⟩; replace HW := hide (HW.out.trans (hb4.mono HW.out.size)); clear hb4))
  all_goals go_ret
  all_goals refine ⟨?_, HW.out⟩
  all_goals rw [HV.out]
  all_goals refine congrArg Ending.returned (congrArg Value.bool ?_)
  all_goals simp [*]
end Go.Proofs.YtfinfkodjkfibaaDoor
