/- aumbrykeep.Copy at bytes: a row of bytes of its own. Condition: as many as memory holds.
aumbrykeep.CopyBlobs, Copy at tests: the same in memory of its own. Condition: at most a million. -/
import Derived.Test.YtfinfkodjkfibaaDoorKeep
import Derived.Test.YtfinfkodjkfibaaDoorNets
import Derived.Test.YtfinfkodjkfibaaDoorTakings
import Derived.Test.YtfinfkodjkfibaaDoorReqAll
namespace Go.Proofs.YtfinfkodjkfibaaDoor
open Go Go.RowKit Go.ChangeShapes Go.WideShapes Go.ChangeAt
set_option linter.unusedVariables false
set_option maxHeartbeats 400000 in
theorem copy_B (v : Value) (xs : List Int) (w : World) (B : Nat) (h : Bs w B v xs) (hx : Bytes xs) (hb : xs.length ≤ 140737488355328) :
    Calls Tryd.prog 27 #[v] w fun e w' => ∃ v', e = .returned v' ∧ RowB w' w.heap.size v' xs ∧ Below w.heap.size w w' := by
  have HV := hide h
  have HX := hide hx
  clear h hx
  go_enter Tryd.func27, Tryd.ntmps27
  go_wp2_with (at_builtin; go_must (refine wpList_append_B rfl _ _ rfl w.heap.size _ [] rfl (RowB.nil_ _ _) _ _ xs rfl HV.out HX.out (by simp; omega) (Nat.le_refl _) ?_); intro v' w' ho hg; rw [List.nil_append] at ho; have HO := hide ho; have HB := hide ((Below.refl w.heap.size w).grown hg (Nat.le_refl _) (fun k hk => ((RowB.nil_ w w.heap.size).base_ k hk).1)); clear ho hg; go_wp2_with fail)
  go_ret
  exact ⟨_, rfl, HO.out, HB.out⟩

end Go.Proofs.YtfinfkodjkfibaaDoor

namespace Go.Proofs.YtfinfkodjkfibaaDoor
open Go Go.RowKit
set_option linter.unusedVariables false
set_option linter.unusedSimpArgs false
set_option maxRecDepth 100000
theorem tsts_ones (l : List Msg.Tst) : ∀ u ∈ l.flatMap tstC, u.oneCell' = true := fun u hu => by
  obtain ⟨t, _, ht⟩ := List.mem_flatMap.1 hu
  exact tst_ones t u ht
theorem copy_tests (v : Value) (l : List Msg.Tst) (w : World) (B : Nat) (h : TstsB w B v l) (hn : l.length ≤ 1000000) :
    Calls Tryd.prog 25 #[v] w fun e w' => ∃ v', e = .returned v' ∧ OwnTsts w' w.heap.size v' l ∧ Below w.heap.size w w' := by
  have HV := hide h.1
  have HW := hide h.2
  clear h
  go_enter Tryd.func25, Tryd.ntmps25
  go_wp2_with (at_builtin; refine wpList_append_rd _ rfl _ _ _ rfl w.heap.size _ _ _ el_tests _ _ _ rfl (World.ownsRow_nil _ _ _ _) B _ _ _ rfl HV.out (tsts_ones _) (by omega) (Nat.le_refl _) ?_; intro v' w' ho hg _; rw [List.nil_append, Nat.zero_add] at ho; have HO := hide ho; have HB := hide ((Below.refl _ _).grown hg (Nat.le_refl _) (by intro k hk; cases hk)); clear ho hg)
  go_ret
  exact ⟨_, rfl, ⟨HO.out, HW.out⟩, HB.out⟩
set_option maxHeartbeats 4000000
theorem copy_blobs (v : Value) (l : List Msg.Blb) (w : World) (hv : BlbsB w w.heap.size v l) (hb : ∀ x ∈ l, Bytes x.2 ∧ x.2.length ≤ 1000000) (hn : l.length ≤ 1000000) :
    Calls Tryd.prog 20 #[v] w fun e w' => ∃ v', e = .returned v' ∧ OwnBlbsR w' w.heap.size v' l ∧ Below w.heap.size w w' := by
  obtain ⟨A, c, rfl, h1, h2, h3⟩ := hv.open_
  unfold maxLen at h2
  have HA := hide h3
  have HBY := hide hb
  obtain ⟨n, HN⟩ : ∃ n, Hid (l.length = n) := ⟨_, hide rfl⟩
  rw [HN.out] at h1 hn ⊢
  have HBe := hide (Below.refl w.heap.size w)
  clear h3 hv hb
  go_enter Tryd.func20, Tryd.ntmps20
  go_wp2_with fail
  go_loopw [3, 7] (fun v3 v7 wr => ∃ i : Nat, v7 = .int .i64 (i : Int) ∧ i ≤ n ∧ OwnBlbsR wr w.heap.size v3 (l.take i) ∧ Below w.heap.size w wr) (fun _ v7 _ => n - (intOf v7).toNat)
  case atStart => exact ⟨0, by go_num, by omega, OwnBlbsR.nil_ _ _, HBe.out⟩
  case round =>
    obtain ⟨i, rfl, hin, ho, hbel⟩ := hrel
    have HO := hide ho
    have HB := hide hbel
    have hwz := hbel.size
    clear ho hbel
    by_cases hlt : i < n
    · have hlt' : (i : Int) < (n : Int) := by omega
      obtain ⟨bb, oo, rfl, hbb, hca⟩ := HA.out (by rw [HN.out]; omega)
      obtain ⟨hc1, u, hc2, hu⟩ := hca i (by rw [HN.out]; exact hlt)
      have HSN := hide (show l.take (i + 1) = l.take i ++ [l[i]'(by rw [HN.out]; exact hlt)] from List.take_succ_eq_append_getElem _)
      have HXY := hide (HBY.out _ (List.getElem_mem (show i < l.length by rw [HN.out]; exact hlt)))
      obtain ⟨x, HX⟩ : ∃ x, Hid (l[i]'(by rw [HN.out]; exact hlt) = x) := ⟨_, hide rfl⟩
      rw [HX.out] at hc1 hu HSN HXY
      obtain ⟨X, x2⟩ := x
      simp only at hc1 hu HXY
      obtain ⟨A2, c2, rfl, _, _, _⟩ := hu.open_
      have HC1 := hide hc1
      have HC2 := hide hc2
      have HU := hide hu
      have HXB := hide HXY.out.1
      have HXL := hide HXY.out.2
      clear hc1 hc2 hu HX hca
      go_upto_region 5 with fail
      generalize HVV : u3 = V at HO ⊢
      have hbs0 : w.heap.size ≤ w.heap.size := Nat.le_refl _
      clear HVV
      refine wp_region_held_drew (S := fun w' => Below w.heap.size w w') (by kernel_rfl) HB.out.drew (fun hHeld => ?_)
      replace HO := hide (HO.out.keptB (Below.refl _ _).drew)
      refine take_d 10 (i := 0) (v := V) rfl (by kernel_rfl) (by kernel_rfl) (by kernel_rfl) (by kernel_rfl) (fun _ _ _ h => h) (Or.inl ⟨by kernel_rfl, fun w' hS => exec_move _ rfl (V) rfl⟩) hHeld ?_
      try simp only [Act.put, List.setIfInBounds_toArray, List.set_cons_zero, List.set_cons_succ]
      refine take_d 11 (i := 1) (v := .slice (some ⟨bb, oo, none⟩) n c) rfl (by kernel_rfl) (by kernel_rfl) (by kernel_rfl) (by kernel_rfl) (fun _ _ _ h => h) (Or.inl ⟨by kernel_rfl, fun w' hS => exec_move _ rfl (.slice (some ⟨bb, oo, none⟩) n c) rfl⟩) hHeld ?_
      try simp only [Act.put, List.setIfInBounds_toArray, List.set_cons_zero, List.set_cons_succ]
      refine take_d 12 (i := 2) (v := .int .i64 ((i : Int))) rfl (by kernel_rfl) (by kernel_rfl) (by kernel_rfl) (by kernel_rfl) (fun _ _ _ h => h) (Or.inl ⟨by kernel_rfl, fun w' hS => exec_move _ rfl (.int .i64 ((i : Int))) rfl⟩) hHeld ?_
      try simp only [Act.put, List.setIfInBounds_toArray, List.set_cons_zero, List.set_cons_succ]
      refine take_d 13 (i := 3) (v := .pointer (some ⟨bb, oo + i * 2, none⟩)) rfl (by kernel_rfl) (by kernel_rfl) (by kernel_rfl) (by kernel_rfl) (fun _ _ _ h => h) (Or.inl ⟨by kernel_rfl, fun w' hS => exec_indexG _ _ _ rfl _ n c bb oo 2 i rfl rfl rfl (by omega) (by kernel_rfl) _ (by omega)⟩) hHeld ?_
      try simp only [Act.put, List.setIfInBounds_toArray, List.set_cons_zero, List.set_cons_succ]
      refine take_d 14 (i := 4) (v := .pointer (some ⟨bb, oo + i * 2, none⟩)) rfl (by kernel_rfl) (by kernel_rfl) (by kernel_rfl) (by kernel_rfl) (fun _ _ _ h => h) (Or.inl ⟨by kernel_rfl, fun w' hS => exec_fieldG _ _ 0 0 rfl bb (oo + i * 2) rfl (by kernel_rfl) _ (by first | rfl | omega)⟩) hHeld ?_
      try simp only [Act.put, List.setIfInBounds_toArray, List.set_cons_zero, List.set_cons_succ]
      refine take_d 15 (i := 5) (v := .int .i64 X) rfl (by kernel_rfl) (by kernel_rfl) (by kernel_rfl) (by kernel_rfl) (fun _ _ _ h => h) (Or.inl ⟨by kernel_rfl, fun w' hS => exec_load_one _ _ rfl bb (oo + i * 2) rfl _ Tryd.underlying3 rfl _ ((hS.cell (p := ⟨bb, oo + i * 2, none⟩) hbb).trans HC1.out)⟩) hHeld ?_
      try simp only [Act.put, List.setIfInBounds_toArray, List.set_cons_zero, List.set_cons_succ]
      refine take_d 16 (i := 6) (v := .slice (some ⟨bb, oo, none⟩) n c) rfl (by kernel_rfl) (by kernel_rfl) (by kernel_rfl) (by kernel_rfl) (fun _ _ _ h => h) (Or.inl ⟨by kernel_rfl, fun w' hS => exec_move _ rfl (.slice (some ⟨bb, oo, none⟩) n c) rfl⟩) hHeld ?_
      try simp only [Act.put, List.setIfInBounds_toArray, List.set_cons_zero, List.set_cons_succ]
      refine take_d 17 (i := 7) (v := .int .i64 ((i : Int))) rfl (by kernel_rfl) (by kernel_rfl) (by kernel_rfl) (by kernel_rfl) (fun _ _ _ h => h) (Or.inl ⟨by kernel_rfl, fun w' hS => exec_move _ rfl (.int .i64 ((i : Int))) rfl⟩) hHeld ?_
      try simp only [Act.put, List.setIfInBounds_toArray, List.set_cons_zero, List.set_cons_succ]
      refine take_d 18 (i := 8) (v := .pointer (some ⟨bb, oo + i * 2, none⟩)) rfl (by kernel_rfl) (by kernel_rfl) (by kernel_rfl) (by kernel_rfl) (fun _ _ _ h => h) (Or.inl ⟨by kernel_rfl, fun w' hS => exec_indexG _ _ _ rfl _ n c bb oo 2 i rfl rfl rfl (by omega) (by kernel_rfl) _ (by omega)⟩) hHeld ?_
      try simp only [Act.put, List.setIfInBounds_toArray, List.set_cons_zero, List.set_cons_succ]
      refine take_d 19 (i := 9) (v := .pointer (some ⟨bb, oo + i * 2 + 1, none⟩)) rfl (by kernel_rfl) (by kernel_rfl) (by kernel_rfl) (by kernel_rfl) (fun _ _ _ h => h) (Or.inl ⟨by kernel_rfl, fun w' hS => exec_fieldG _ _ 1 1 rfl bb (oo + i * 2) rfl (by kernel_rfl) _ (by first | rfl | omega)⟩) hHeld ?_
      try simp only [Act.put, List.setIfInBounds_toArray, List.set_cons_zero, List.set_cons_succ]
      refine take_d 20 (i := 10) (v := .slice A2 x2.length c2) rfl (by kernel_rfl) (by kernel_rfl) (by kernel_rfl) (by kernel_rfl) (fun _ _ _ h => h) (Or.inl ⟨by kernel_rfl, fun w' hS => exec_load_one _ _ rfl bb (oo + i * 2 + 1) rfl _ Tryd.underlying26 rfl _ ((hS.cell (p := ⟨bb, oo + i * 2 + 1, none⟩) hbb).trans HC2.out)⟩) hHeld ?_
      try simp only [Act.put, List.setIfInBounds_toArray, List.set_cons_zero, List.set_cons_succ]
      refine wpAnyH_ready (rs := [11]) (by kernel_rfl) (by simp) (AllReadyH.cons rfl (fun K hK => ?_) AllReadyH.nil)
      rw [if_pos (by kernel_rfl)]
      try go_simp
      refine (copy_B _ x2 _ w.heap.size (HU.out.below hHeld (Nat.le_refl _)) HXB.out (by have := HXL.out; omega)).mono ?_
      rintro e w72 ⟨v72, rfl, ho72, hb72⟩
      replace HO := hide (HO.out.keptB hb72)
      have HX := hide (show Below w.heap.size w _ from hHeld.trans (hb72.mono (Nat.le_trans hbs0 hHeld.size)))
      have HN := hide (ho72.more (Nat.le_trans hbs0 hHeld.size))
      obtain ⟨A72, c72, rfl⟩ := ho72.shape
      clear ho72 hb72
      refine hK.out _ _ HX.out (fun hHeld => ?_)
      clear HX hK K
      try simp only [Act.put, List.setIfInBounds_toArray, List.set_cons_zero, List.set_cons_succ]
      refine take_d 22 (i := 12) (v := .agg [Value.int .i64 X, .slice A72 x2.length c72].toArray) rfl (by kernel_rfl) (by kernel_rfl) (by kernel_rfl) (by kernel_rfl) (fun _ _ _ h => h) (Or.inl ⟨by kernel_rfl, fun w' hS => exec_build2 _ _ _ _ _ rfl _ _ rfl rfl [Value.int .i64 X, .slice A72 x2.length c72] (built_blob X A72 x2.length c72)⟩) hHeld ?_
      try simp only [Act.put, List.setIfInBounds_toArray, List.set_cons_zero, List.set_cons_succ]
      refine wpAnyH_ready (rs := [13]) (by kernel_rfl) (by simp) (AllReadyH.cons rfl (fun K hK => ?_) AllReadyH.nil)
      rw [if_pos (by kernel_rfl)]
      refine wp_blob1D 23 rfl _ rfl X (.slice A72 x2.length c72) rfl ?_
      intro g74 w74 hg74 hk74 hb74
      replace HO := hide (HO.out.keptB hb74)
      have HX := hide (show Below w.heap.size w _ from hHeld.trans (hb74.mono (Nat.le_trans hbs0 hHeld.size)))
      replace HN := hide (HN.out.keptB hb74)
      have HK := hide hk74
      clear hk74 hb74 hg74
      refine hK.out _ _ HX.out (fun hHeld => ?_)
      clear HX hK K
      try simp only [Act.put, List.setIfInBounds_toArray, List.set_cons_zero, List.set_cons_succ]
      refine wpAnyH_ready (rs := [14]) (by kernel_rfl) (by simp) (AllReadyH.cons rfl (fun K hK => ?_) AllReadyH.nil)
      rw [if_pos (by kernel_rfl)]
      refine wp_append_blobDR 24 rfl _ _ rfl w.heap.size V (l.take i) rfl HO.out (Nat.le_trans hbs0 hHeld.size) (by rw [List.length_take]; omega) g74 X _ x2 rfl HK.out HN.out ?_
      intro v75 w75 ho75 hg75 hbz
      have HX := hide (show Below w.heap.size w w75 from hHeld.grown hg75 (Nat.le_trans hbs0 hHeld.size) hbz)
      have HO2 := hide ho75
      clear ho75 hg75 hbz
      refine hK.out _ _ HX.out (fun hHeld => ?_)
      clear HX hK K
      try simp only [Act.put, List.setIfInBounds_toArray, List.set_cons_zero, List.set_cons_succ]
      refine take_d 3 (i := 15) (v := v75) rfl (by kernel_rfl) (by kernel_rfl) (by kernel_rfl) (by kernel_rfl) (fun _ _ _ h => h) (Or.inl ⟨by kernel_rfl, fun w' hS => exec_assign _ rfl (v75) rfl⟩) hHeld ?_
      try simp only [Act.put, List.setIfInBounds_toArray, List.set_cons_zero, List.set_cons_succ]
      refine wpAnyH_done (by kernel_rfl) ?_ _
      go_wp2_with fail
      go_roundw
      case measure => simp [intOf]; omega
      case rel => exact ⟨i + 1, by go_num, by omega, by rw [HSN.out]; exact HO2.out, hHeld⟩
    · obtain rfl : i = n := by omega
      have hlt' : ¬ (i : Int) < (i : Int) := by omega
      have HOO := hide (show OwnBlbsR wr w.heap.size u3 l by have := HO.out; rw [List.take_of_length_le (by rw [HN.out]; exact Nat.le_refl _)] at this; exact this)
      go_wp2_with fail
      go_ret
      exact ⟨_, rfl, HOO.out, HB.out⟩
end Go.Proofs.YtfinfkodjkfibaaDoor
