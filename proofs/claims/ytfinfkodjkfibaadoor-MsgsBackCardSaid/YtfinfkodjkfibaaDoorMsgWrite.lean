/- msgs.blobs: blobs as bytes. Condition: the table of powers of ten stands; at most a thousand blobs of at most a million bytes. -/
import Derived.Test.YtfinfkodjkfibaaDoorBlobs
import Derived.Test.YtfinfkodjkfibaaDoorMsgLaws
import Derived.Test.YtfinfkodjkfibaaDoorRowsLit
import Derived.Test.YtfinfkodjkfibaaDoorNets
import Derived.Test.YtfinfkodjkfibaaDoorPutBoth
import Derived.Test.YtfinfkodjkfibaaDoorTakeD
import Derived.Test.YtfinfkodjkfibaaDoorCells
import Derived.Test.YtfinfkodjkfibaaDoorExec
namespace Go.Proofs.YtfinfkodjkfibaaDoor
open Go Go.RowKit
set_option linter.unusedVariables false
set_option linter.unusedSimpArgs false
set_option maxRecDepth 100000
theorem Own8.cells1 {w : World} {base : Nat} {v : Value} {xs : List Int} (h : Own8 w base v xs) : v.cells = #[v] := by
  obtain ⟨A, c, rfl⟩ := own_shape h
  rfl
theorem rowB_ne {w : World} {base g : Nat} {t : TypeId} {cs : List Value} {v : Value} {xs : List Int} (h : RowB w base v xs) (hk : Blk w g t cs) (ht : t ≠ 5) : some g ≠ v.ownBlock := by
  rcases h with ⟨rfl, rfl⟩ | ⟨g', cap, cur, f, rfl, _, hb, _⟩
  · simp [Value.ownBlock]
  · intro e
    simp [Value.ownBlock] at e
    subst e
    unfold BlkF at hb
    unfold Blk at hk
    rw [hk] at hb
    injection hb with hb
    injection hb with _ hb _
    exact ht hb
theorem size_blob : (Tryd.prog.info? 44).map (·.size) = some 2 := by kernel_rfl
theorem zero_blob : (Tryd.prog.info? 44).map (·.zero) = some (some (.agg [Value.int .i64 0, .slice none 0 0].toArray)) := by kernel_rfl
section
variable {o : Oper} {a : Act} {w : World} {K : Act → World → Prop} {Q : Exit → Act → World → Prop}
theorem wp_append_BD (d : Nat) (hd : o.dst = some d) (s x : Operand) (ho : o.op = .call { callee := .builtin .append, args := #[s, x], argTypes := #[26, 26] })
    (base : Nat) (v : Value) (xs : List Int) (hs : a.eval s = v) (hown : RowB w base v xs) (B : Nat) (vx : Value) (ys : List Int) (hx : a.eval x = vx) (hr : Bs w B vx ys) (hy : Bytes ys)
    (hbytes : xs.length + ys.length ≤ 140737488355328) (hbase : base ≤ w.heap.size)
    (h : ∀ v' w', RowB w' base v' (xs ++ ys) → w.grownBy w' v.ownBlock → K (a.put (some d) v') w') : o.wp Tryd.prog a w K Q :=
  wp_append_B s x ho base v xs hs hown B vx ys hx hr hy hbytes hbase fun v' w' h2 h3 => by rw [hd]; exact h v' w' h2 h3
theorem exec_field_blob (x : Operand) (k off : Nat) (ho : o.op = .fieldAddr 44 x k) (g : Nat) (hx : a.eval x = .pointer (some ⟨g, 0, none⟩)) (hk : [0, 1][k]? = some off) : (execOp a.eval o).run Tryd.prog w = .ok (.value (.pointer (some ⟨g, off, none⟩))) w := by
  unfold execOp
  simp only [ho, hx]
  have h7 : k < 2 := by have := (List.getElem?_eq_some_iff.1 hk).1; simpa using this
  obtain rfl | rfl : k = 0 ∨ k = 1 := by omega
  all_goals (simp at hk; subst hk; go_simp)
end
theorem blob_snoc (l : List Msg.Blb) (n i : Nat) (hi : i < l.length) : netsF (putF (n : Int) 1 :: (l.take i).flatMap Msg.blobR) ++ netsF [putF l[i].1 1, l[i].2] = netsF (putF (n : Int) 1 :: (l.take (i + 1)).flatMap Msg.blobR) := by
  rw [List.take_succ_eq_append_getElem hi, List.flatMap_append, ← Msg.netsF_app]
  simp [Msg.blobR]
set_option maxHeartbeats 4000000
theorem wblobs_any (v : Value) (l : List Msg.Blb) (w : World) (hv : BlbsB w w.heap.size v l) (hb : ∀ x ∈ l, Bytes x.2 ∧ x.2.length ≤ 1000000) (hl : l.length ≤ 1000) (hin : ∀ x ∈ l, -9223372036854775808 ≤ x.1 ∧ x.1 ≤ 9223372036854775807) (ht : Tab w w.heap.size) :
    Calls Tryd.prog 30 #[v] w fun e w' => ∃ v', e = .returned v' ∧ RowB w' w.heap.size v' (netsF (Msg.blobRows l)) ∧ Below w.heap.size w w' := by
  have HV := hide hv
  have HT := hide ht
  have HBY := hide hb
  have HIN := hide hin
  obtain ⟨A, c, rfl, h1, h2, h3⟩ := hv.open_
  have H3 := hide h3
  obtain ⟨n, HN⟩ : ∃ n, Hid (l.length = n) := ⟨_, hide rfl⟩
  have HP1 := hide (show ∀ z : Int, (putF z 1).length ≤ 8 from fun z => by
    have h : (putF z 1).length = wid 1 := putN_len _ _
    have := wid_le 1
    omega)
  have HRES := hide (show Msg.blobRows l = putF (n : Int) 1 :: l.flatMap Msg.blobR by rw [← HN.out]; rfl)
  obtain ⟨base, HBS⟩ : ∃ b, Hid (w.heap.size = b) := ⟨_, hide rfl⟩
  rw [HRES.out]
  rw [HN.out] at hl h1 HV ⊢
  rw [HBS.out] at HT HV H3 ⊢
  unfold maxLen at h2
  clear hv ht hb hin h3 HRES
  go_enter Tryd.func30, Tryd.ntmps30
  go_wp2_with fail
  refine (Put_any (n : Int) 1 _ (by omega) (by omega)).mono ?_
  rintro e w1 ⟨v1, rfl, ho1, hb1⟩
  rw [HBS.out] at ho1 hb1
  have HP := hide ho1
  have HB1 := hide hb1
  have hz1 : base ≤ w1.heap.size := by have h1 := hb1.size; have h2 := HBS.out; omega
  clear ho1 hb1
  go_wp2_with (refine wpList_rows1 rfl _ rfl v1 rfl HP.out.cells1 ?_; intro w2 hb2 hw2; have hz2 := hw2.size; have HR2 := hide (rows_one hb2 (HP.out.keptB hw2).reads); have HB2 := hide (HB1.out.trans (hw2.mono hz1)); clear hb2 hw2 HP HB1)
  refine (Nets_any _ [putF (n : Int) 1] w2 HR2.out (by intro x hx; obtain rfl := List.mem_singleton.1 hx; exact putF_bytes _ _) (by intro x hx; obtain rfl := List.mem_singleton.1 hx; have := HP1.out (n : Int); omega) (by simp) ((HT.out.below HB2.out (Nat.le_refl _)).more (by omega))).mono ?_
  rintro e w3 ⟨v3, rfl, ho3, hb3⟩
  have HO3 := hide (ho3.more (show base ≤ w2.heap.size by omega))
  have HB3 := hide (HB2.out.trans (hb3.mono (by omega)))
  have hz3 := hb3.size
  clear ho3 hb3 HR2 HB2
  go_wp2_with fail
  go_loopw [3, 13] (fun v3 v13 wr => ∃ i : Nat, v13 = .int .i64 i ∧ i ≤ n ∧ RowB wr base v3 (netsF (putF (n : Int) 1 :: (l.take i).flatMap Msg.blobR)) ∧ Below base w wr) (fun _ v13 _ => n - (intOf v13).toNat)
  case atStart => exact ⟨0, by go_num, by omega, by simpa using HO3.out, HB3.out⟩
  case round =>
    obtain ⟨i, rfl, hin, ho, hb⟩ := hrel
    rename World => ws
    clear HO3 HB3
    have HO := hide ho
    have HB := hide hb
    have hbs : base ≤ ws.heap.size := by have h1 := hb.size; have h2 := HBS.out; omega
    clear ho hb
    by_cases hlt : i < n
    · have hlt' : (i : Int) < (n : Int) := by omega
      have hil : i < l.length := by rw [HN.out]; exact hlt
      obtain ⟨bb, oo, rfl, hbb, hcc⟩ := H3.out (by omega)
      obtain ⟨hc1, u, hc2, hu⟩ := hcc i hil
      have HX1 := hide (blob_snoc l n i hil)
      have HYB := hide (HBY.out _ (List.getElem_mem hil))
      have HXI := hide (HIN.out _ (List.getElem_mem hil))
      obtain ⟨xx, HXX⟩ : ∃ x, Hid (l[i] = x) := ⟨_, hide rfl⟩
      rw [HXX.out] at hc1 hu HX1 HYB HXI
      obtain ⟨X, x2⟩ := xx
      simp only at hc1 hu HX1 HYB HXI
      obtain ⟨Au, cu, rfl, _, _, _⟩ := hu.open_
      have HC1 := hide ((HB.out.cell (p := ⟨bb, oo + i * 2, none⟩) hbb).trans hc1)
      have HC2 := hide ((HB.out.cell (p := ⟨bb, oo + i * 2 + 1, none⟩) hbb).trans hc2)
      have HU0 := hide ((hu.below HB.out (Nat.le_refl _)).more hbs)
      obtain ⟨u, HUV⟩ : ∃ u, Hid (Value.slice Au x2.length cu = u) := ⟨_, hide rfl⟩
      have HUC := hide (show u.cells = #[u] by rw [← HUV.out]; rfl)
      have HU1 := hide (show u.oneCell' = true by rw [← HUV.out]; rfl)
      rw [HUV.out] at HC2 HU0
      have HOL := hide (show (netsF (putF (n : Int) 1 :: (l.take i).flatMap Msg.blobR)).length ≤ 140737488355328 - 3000063 from by
        have hall : ∀ y ∈ putF (n : Int) 1 :: (l.take i).flatMap Msg.blobR, y.length ≤ 1000000 := fun y hy => by
          rcases List.mem_cons.1 hy with rfl | hy
          · have := HP1.out (n : Int); omega
          · obtain ⟨z, hz, hy⟩ := List.mem_flatMap.1 hy
            simp only [Msg.blobR, List.mem_cons, List.not_mem_nil, or_false] at hy
            rcases hy with rfl | rfl
            · have := HP1.out z.1; omega
            · exact (HBY.out z (List.mem_of_mem_take hz)).2
        have h1 := netsF_len _ hall _ (Nat.le_refl _)
        rw [List.take_length] at h1
        have h2 : (putF (n : Int) 1 :: (l.take i).flatMap Msg.blobR).length ≤ 2001 := by rw [List.length_cons, Msg.blobR_len, List.length_take]; omega
        have h3 := Nat.mul_le_mul_right 1000021 h2
        omega)
      have HRB := hide (show ∀ y ∈ [putF X 1, x2], Bytes y from fun y hy => by
        simp only [List.mem_cons, List.not_mem_nil, or_false] at hy
        rcases hy with rfl | rfl
        · exact putF_bytes _ _
        · exact HYB.out.1)
      have HRL := hide (show ∀ y ∈ [putF X 1, x2], y.length ≤ 1000000 from fun y hy => by
        simp only [List.mem_cons, List.not_mem_nil, or_false] at hy
        rcases hy with rfl | rfl
        · have := HP1.out X; omega
        · exact HYB.out.2)
      have HNL := hide (show (netsF [putF X 1, x2]).length ≤ 3000063 from by
        have h1 := netsF_len _ HRL.out _ (Nat.le_refl _)
        rw [List.take_length] at h1
        have h2 : [putF X 1, x2].length = 2 := rfl
        rw [h2] at h1
        omega)
      obtain ⟨g5, HG⟩ : ∃ k, Hid (ws.heap.size = k) := ⟨_, hide rfl⟩
      clear hcc hc1 hc2 hu
      have HRG := hide (show ws.rangeAt bb (oo + i * 2) [.int .i64 X, u] from fun j v hj => by
        obtain rfl | rfl | hj2 : j = 0 ∨ j = 1 ∨ 2 ≤ j := by omega
        · simp at hj; subst hj; exact HC1.out
        · simp at hj; subst hj; exact HC2.out
        · rw [List.getElem?_eq_none (by simpa using hj2)] at hj; cases hj)
      have HONE := hide (show ∀ z ∈ [Value.int .i64 X, u], z.oneCell' = true from fun z hz => by
        simp only [List.mem_cons, List.not_mem_nil, or_false] at hz
        rcases hz with rfl | rfl
        · rfl
        · exact HU1.out)
      go_upto_region 5 with (first
        | (refine wpList_load_mid rfl 44 _ rfl bb (oo + i * 2) rfl [.int .i64 X, u] _ HRG.out Tryd.underlying44 rfl size_blob ?_)
        | (refine wpList_alloc_blk rfl 44 rfl _ zero_blob ?_; intro wa hba hwa hsa; rw [HG.out] at hba hwa hsa; try rw [HG.out]; have HBA := hide hba; have HWA := hide hwa; clear hba hwa)
        | (refine wpList_store_blk rfl 44 _ _ rfl g5 0 [.int .i64 X, u] rfl rfl _ _ HBA.out (by simp) size_blob HONE.out ?_; intro wb hbb2 hgb hsb; have HG5 := hide (show Blk wb g5 44 [.int .i64 X, u] from by rw [lset_all _ _ (by simp)] at hbb2; exact hbb2); have HGB := hide hgb; clear hbb2 hgb))
      have hg5 := HG.out
      have hbs0 : base ≤ w.heap.size := by have := HBS.out; omega
      have HWB := hide (show Below g5 ws wb from HWA.out.grown HGB.out (by omega) (by intro k hk; simp at hk; omega))
      replace HO := hide (HO.out.keptB (by rw [hg5]; exact HWB.out))
      replace HB := hide (HB.out.trans (HWB.out.mono (by omega)))
      have HU := hide ((HU0.out.below (B' := g5) HWB.out (by omega)).more (by have := HWB.out.size; omega : _ ≤ wb.heap.size))
      generalize HVV : u3 = V at HO ⊢
      clear HBA HWA HGB HWB HVV HRG HC1 HC2 HU0
      refine wp_region_held_drew (S := fun w' => Blk w' g5 44 [.int .i64 X, u] ∧ Below base w w') (by kernel_rfl) ⟨HG5.out.drew, HB.out.drew⟩ (fun hHeld => ?_)
      replace HO := hide (HO.out.keptB (Below.refl _ _).drew)
      replace HU := hide (HU.out.below ((Below.refl _ _).drew) (Nat.le_refl _))
      refine take_d 17 (i := 0) (v := V) rfl (by kernel_rfl) (by kernel_rfl) (by kernel_rfl) (by kernel_rfl) (fun _ _ _ h => h) (Or.inl ⟨by kernel_rfl, fun w' hS => exec_move _ rfl _ rfl⟩) hHeld ?_
      try simp only [Act.put, List.setIfInBounds_toArray, List.set_cons_zero, List.set_cons_succ]
      refine take_d 18 (i := 1) (v := .pointer (some ⟨g5, 0, none⟩)) rfl (by kernel_rfl) (by kernel_rfl) (by kernel_rfl) (by kernel_rfl) (fun _ _ _ h => h) (Or.inl ⟨by kernel_rfl, fun w' hS => exec_field_blob _ 0 0 rfl g5 rfl rfl⟩) hHeld ?_
      try simp only [Act.put, List.setIfInBounds_toArray, List.set_cons_zero, List.set_cons_succ]
      refine take_d 19 (i := 2) (v := .int .i64 X) rfl (by kernel_rfl) (by kernel_rfl) (by kernel_rfl) (by kernel_rfl) (fun _ _ _ h => h) (Or.inl ⟨by kernel_rfl, fun w' hS => exec_load_one _ _ rfl g5 0 rfl _ Tryd.underlying3 rfl _ (by rw [hS.1.cell]; rfl)⟩) hHeld ?_
      try simp only [Act.put, List.setIfInBounds_toArray, List.set_cons_zero, List.set_cons_succ]
      refine take_d 21 (i := 4) (v := .pointer (some ⟨g5, 1, none⟩)) rfl (by kernel_rfl) (by kernel_rfl) (by kernel_rfl) (by kernel_rfl) (fun _ _ _ h => h) (Or.inl ⟨by kernel_rfl, fun w' hS => exec_field_blob _ 1 1 rfl g5 rfl rfl⟩) hHeld ?_
      try simp only [Act.put, List.setIfInBounds_toArray, List.set_cons_zero, List.set_cons_succ]
      refine take_d 22 (i := 5) (v := u) rfl (by kernel_rfl) (by kernel_rfl) (by kernel_rfl) (by kernel_rfl) (fun _ _ _ h => h) (Or.inl ⟨by kernel_rfl, fun w' hS => exec_load_one _ _ rfl g5 1 rfl _ Tryd.underlying26 rfl _ (by rw [hS.1.cell]; rfl)⟩) hHeld ?_
      try simp only [Act.put, List.setIfInBounds_toArray, List.set_cons_zero, List.set_cons_succ]
      refine wpAnyH_ready (rs := [3]) (by kernel_rfl) (by simp) (AllReadyH.cons rfl (fun K hK => ?_) AllReadyH.nil)
      rw [if_pos (by kernel_rfl)]
      try go_simp
      refine (Put_any X 1 _ HXI.out (by omega)).mono ?_
      rintro e wp ⟨v1, rfl, ho1, hb1⟩
      replace HO := hide (HO.out.keptB hb1)
      have HX := hide (show Blk _ g5 44 [.int .i64 X, u] ∧ Below base w _ from ⟨hHeld.1.below hb1 hHeld.1.lt, hHeld.2.trans (hb1.mono (Nat.le_trans hbs0 hHeld.2.size))⟩)
      replace HU := hide ((HU.out.below hb1 (Nat.le_refl _)).more hb1.size)
      have HP := hide ho1
      clear ho1 hb1
      refine hK.out _ _ HX.out (fun hHeld => ?_)
      clear HX hK K
      try simp only [Act.put, List.setIfInBounds_toArray, List.set_cons_zero, List.set_cons_succ]
      refine wpAnyH_ready (rs := [6]) (by kernel_rfl) (by simp) (AllReadyH.cons rfl (fun K hK => ?_) AllReadyH.nil)
      rw [if_pos (by kernel_rfl)]
      refine wp_rows2D 23 rfl _ _ rfl v1 u rfl rfl HP.out.cells1 HUC.out ?_
      intro wl hbl hbb
      replace HP := hide (HP.out.keptB hbb)
      replace HO := hide (HO.out.keptB hbb)
      have HX := hide (show Blk _ g5 44 [.int .i64 X, u] ∧ Below base w _ from ⟨hHeld.1.below hbb hHeld.1.lt, hHeld.2.trans (hbb.mono (Nat.le_trans hbs0 hHeld.2.size))⟩)
      replace HU := hide ((HU.out.below hbb (Nat.le_refl _)).more hbb.size)
      have HR := hide (rows_two hbl HP.out.reads HU.out)
      clear hbl hbb
      refine hK.out _ _ HX.out (fun hHeld => ?_)
      clear HX hK K
      try simp only [Act.put, List.setIfInBounds_toArray, List.set_cons_zero, List.set_cons_succ]
      refine wpAnyH_ready (rs := [7]) (by kernel_rfl) (by simp) (AllReadyH.cons rfl (fun K hK => ?_) AllReadyH.nil)
      rw [if_pos (by kernel_rfl)]
      try go_simp
      refine (Nets_any _ [putF X 1, x2] _ HR.out HRB.out HRL.out (by simp) ((HT.out.below hHeld.2 (Nat.le_refl _)).more (Nat.le_trans hbs0 hHeld.2.size))).mono ?_
      rintro e wn ⟨v24, rfl, ho2, hb2⟩
      replace HO := hide (HO.out.keptB hb2)
      have HX := hide (show Blk _ g5 44 [.int .i64 X, u] ∧ Below base w _ from ⟨hHeld.1.below hb2 hHeld.1.lt, hHeld.2.trans (hb2.mono (Nat.le_trans hbs0 hHeld.2.size))⟩)
      replace HU := hide ((HU.out.below hb2 (Nat.le_refl _)).more hb2.size)
      have HN2 := hide ho2
      clear ho2 hb2
      refine hK.out _ _ HX.out (fun hHeld => ?_)
      clear HX hK K
      try simp only [Act.put, List.setIfInBounds_toArray, List.set_cons_zero, List.set_cons_succ]
      refine wpAnyH_ready (rs := [8]) (by kernel_rfl) (by simp) (AllReadyH.cons rfl (fun K hK => ?_) AllReadyH.nil)
      rw [if_pos (by kernel_rfl)]
      refine wp_append_BD 25 rfl _ _ rfl base V _ rfl HO.out _ v24 (netsF [putF X 1, x2]) rfl HN2.out.reads HN2.out.bytes (by have h1 := HOL.out; have h2 := HNL.out; omega) (Nat.le_trans hbs0 hHeld.2.size) ?_
      intro v25 w25 ho25 hg25
      have HX := hide (show Blk w25 g5 44 [.int .i64 X, u] ∧ Below base w w25 from ⟨hHeld.1.grown hg25 (rowB_ne HO.out hHeld.1 (by decide)), hHeld.2.grown hg25 (Nat.le_trans hbs0 hHeld.2.size) (fun k hk => (HO.out.base_ k hk).1)⟩)
      have HO2 := hide ho25
      clear ho25 hg25
      refine hK.out _ _ HX.out (fun hHeld => ?_)
      clear HX hK K
      try simp only [Act.put, List.setIfInBounds_toArray, List.set_cons_zero, List.set_cons_succ]
      refine take_d 3 (i := 9) (v := v25) rfl (by kernel_rfl) (by kernel_rfl) (by kernel_rfl) (by kernel_rfl) (fun _ _ _ h => h) (Or.inl ⟨by kernel_rfl, fun w' hS => exec_assign _ rfl _ rfl⟩) hHeld ?_
      try simp only [Act.put, List.setIfInBounds_toArray, List.set_cons_zero, List.set_cons_succ]
      refine wpAnyH_done (by kernel_rfl) ?_ _
      go_wp2_with fail
      go_roundw
      case measure => simp [intOf]; omega
      case rel => exact ⟨i + 1, by go_num, by omega, by rw [← HX1.out]; exact HO2.out, hHeld.2⟩
    · obtain rfl : i = n := by omega
      have hlt' : ¬ (i : Int) < (i : Int) := by omega
      have HE := hide (show l.take i = l from List.take_of_length_le (by rw [HN.out]; omega))
      rw [HE.out] at HO
      go_wp2_with fail
      go_ret
      exact ⟨_, rfl, HO.out, HB.out⟩
end Go.Proofs.YtfinfkodjkfibaaDoor
