/- The document's blobs: blobs as bytes. Condition: at most a thousand blobs of at most a million bytes. -/
import Derived.Test.YtfinfkodjkfibaaDoorMsgWrite
import Derived.Test.YtfinfkodjkfibaaDoorRefNet
import Derived.Test.YtfinfkodjkfibaaDoorPutBoth
namespace Go.Proofs.YtfinfkodjkfibaaDoor
open Go Go.RowKit
set_option linter.unusedVariables false
set_option linter.unusedSimpArgs false
set_option maxRecDepth 100000
section
variable {o : Oper} {a : Act} {w : World}
theorem exec_index_blob (x y : Operand) (ho : o.op = .indexAddr 23 x y) (A : Option Addr) (n c b off j : Nat) (hx : a.eval x = .slice A n c) (hy : a.eval y = .int .i64 (j : Int)) (hA : A = some ⟨b, off, none⟩) (hj : j < n) : (execOp a.eval o).run Tryd.prog w = .ok (.value (.pointer (some ⟨b, off + j * 2, none⟩))) w := by
  subst hA
  unfold execOp
  simp only [ho, hx, hy]
  have h0 : (0 : Int) ≤ (j : Int) := by omega
  have h1 : (j : Int) < (n : Int) := by omega
  go_simp
theorem exec_field_blobat (x : Operand) (k off : Nat) (ho : o.op = .fieldAddr 44 x k) (g at_ : Nat) (hx : a.eval x = .pointer (some ⟨g, at_, none⟩)) (hk : [0, 1][k]? = some off) : (execOp a.eval o).run Tryd.prog w = .ok (.value (.pointer (some ⟨g, at_ + off, none⟩))) w := by
  unfold execOp
  simp only [ho, hx]
  have h7 : k < 2 := by have := (List.getElem?_eq_some_iff.1 hk).1; simpa using this
  obtain rfl | rfl : k = 0 ∨ k = 1 := by omega
  all_goals (simp at hk; subst hk; go_simp)
end
set_option maxHeartbeats 4000000
theorem blobs_ref (v : Value) (l : List Msg.Blb) (w : World) (hv : BlbsB w w.heap.size v l) (hb : ∀ x ∈ l, Bytes x.2 ∧ x.2.length ≤ 1000000) (hl : l.length ≤ 1000) (hin : ∀ x ∈ l, -9223372036854775808 ≤ x.1 ∧ x.1 ≤ 9223372036854775807) :
    Calls Tryd.prog 33 #[v] w fun e w' => ∃ v', e = .returned v' ∧ RowB w' w.heap.size v' (netsF (Msg.blobRows l)) ∧ Below w.heap.size w w' := by
  have HV := hide hv
  have HBY := hide hb
  have HIN := hide hin
  obtain ⟨A, c, rfl, h1, h2, h3⟩ := hv.open_
  have H3 := hide h3
  obtain ⟨n, HN⟩ : ∃ n, Hid (l.length = n) := ⟨_, hide rfl⟩
  have HP1 := hide (show ∀ z : Int, (putF z 1).length ≤ 8 from fun z => by
    have h : (putF z 1).length = wid 1 := putN_len _ _
    have := wid_le 1
    omega)
  have HRES := hide (show Msg.blobRows l = putF (n : Int) 1 :: l.flatMap Msg.blobR by rw [← HN.out]; rfl)
  obtain ⟨base, HBS⟩ : ∃ b, Hid (w.heap.size = b) := ⟨_, hide rfl⟩
  rw [HRES.out]
  rw [HN.out] at hl h1 HV ⊢
  rw [HBS.out] at HV H3 ⊢
  unfold maxLen at h2
  clear hv hb hin h3 HRES
  go_enter Tryd.func33, Tryd.ntmps33
  go_wp2_with fail
  refine (Put_ref (n : Int) 1 _ (by omega) (by omega)).mono ?_
  rintro e w1 ⟨v1, rfl, ho1, hb1⟩
  rw [HBS.out] at ho1 hb1
  have HP := hide ho1
  have HB1 := hide hb1
  have hz1 : base ≤ w1.heap.size := by have h1 := hb1.size; have h2 := HBS.out; omega
  have hp1 : (putF (n : Int) 1).length ≤ 70368744177664 := by have := HP1.out (n : Int); omega
  clear ho1 hb1
  go_wp2_with fail
  refine (Net_ref _ (putF (n : Int) 1) w1 HP.out.reads (putF_bytes _ _) hp1).mono ?_
  rintro e w3 ⟨v3, rfl, ho3, hb3⟩
  have HO3 := hide (show RowB w3 base v3 (netsF (putF (n : Int) 1 :: (l.take 0).flatMap Msg.blobR)) by simpa [netsF] using ho3.more hz1)
  have HB3 := hide (HB1.out.trans (hb3.mono hz1))
  clear ho3 hb3 HP HB1
  go_wp2_with fail
  go_loopw [3, 4, 11] (fun v3 v4 v13 wr => ∃ i : Nat, v13 = .int .i64 i ∧ i ≤ n ∧ RowB wr base v3 (netsF (putF (n : Int) 1 :: (l.take i).flatMap Msg.blobR)) ∧ Below base w wr) (fun _ _ v13 _ => n - (intOf v13).toNat)
  case atStart => exact ⟨0, by go_num, by omega, HO3.out, HB3.out⟩
  case round =>
    obtain ⟨i, rfl, hin, ho, hb⟩ := hrel
    rename World => ws
    clear HO3 HB3
    have HO := hide ho
    have HB := hide hb
    have hbs : base ≤ ws.heap.size := by have h1 := hb.size; have h2 := HBS.out; omega
    clear ho hb
    by_cases hlt : i < n
    · have hlt' : (i : Int) < (n : Int) := by omega
      have hil : i < l.length := by rw [HN.out]; exact hlt
      obtain ⟨bb, oo, rfl, hbb, hcc⟩ := H3.out (by omega)
      obtain ⟨hc1, u, hc2, hu⟩ := hcc i hil
      have HX1 := hide (blob_snoc l n i hil)
      have HYB := hide (HBY.out _ (List.getElem_mem hil))
      have HXI := hide (HIN.out _ (List.getElem_mem hil))
      obtain ⟨xx, HXX⟩ : ∃ x, Hid (l[i] = x) := ⟨_, hide rfl⟩
      rw [HXX.out] at hc1 hu HX1 HYB HXI
      obtain ⟨X, x2⟩ := xx
      simp only at hc1 hu HX1 HYB HXI
      obtain ⟨Au, cu, rfl, _, _, _⟩ := hu.open_
      have HC1 := hide hc1
      have HC2 := hide hc2
      have HU0 := hide ((hu.below HB.out (Nat.le_refl _)).more hbs)
      obtain ⟨u, HUV⟩ : ∃ u, Hid (Value.slice Au x2.length cu = u) := ⟨_, hide rfl⟩
      have HUC := hide (show u.cells = #[u] by rw [← HUV.out]; rfl)
      have HU1 := hide (show u.oneCell' = true by rw [← HUV.out]; rfl)
      rw [HUV.out] at HC2 HU0
      have HOL := hide (show (netsF (putF (n : Int) 1 :: (l.take i).flatMap Msg.blobR)).length ≤ 140737488355328 - 3000063 from by
        have hall : ∀ y ∈ putF (n : Int) 1 :: (l.take i).flatMap Msg.blobR, y.length ≤ 1000000 := fun y hy => by
          rcases List.mem_cons.1 hy with rfl | hy
          · have := HP1.out (n : Int); omega
          · obtain ⟨z, hz, hy⟩ := List.mem_flatMap.1 hy
            simp only [Msg.blobR, List.mem_cons, List.not_mem_nil, or_false] at hy
            rcases hy with rfl | rfl
            · have := HP1.out z.1; omega
            · exact (HBY.out z (List.mem_of_mem_take hz)).2
        have h1 := netsF_len _ hall _ (Nat.le_refl _)
        rw [List.take_length] at h1
        have h2 : (putF (n : Int) 1 :: (l.take i).flatMap Msg.blobR).length ≤ 2001 := by rw [List.length_cons, Msg.blobR_len, List.length_take]; omega
        have h3 := Nat.mul_le_mul_right 1000021 h2
        omega)
      have HRB := hide (show ∀ y ∈ [putF X 1, x2], Bytes y from fun y hy => by
        simp only [List.mem_cons, List.not_mem_nil, or_false] at hy
        rcases hy with rfl | rfl
        · exact putF_bytes _ _
        · exact HYB.out.1)
      have HRL := hide (show ∀ y ∈ [putF X 1, x2], y.length ≤ 1000000 from fun y hy => by
        simp only [List.mem_cons, List.not_mem_nil, or_false] at hy
        rcases hy with rfl | rfl
        · have := HP1.out X; omega
        · exact HYB.out.2)
      have HNL := hide (show (netsF [putF X 1, x2]).length ≤ 3000063 from by
        have h1 := netsF_len _ HRL.out _ (Nat.le_refl _)
        rw [List.take_length] at h1
        have h2 : [putF X 1, x2].length = 2 := rfl
        rw [h2] at h1
        omega)
      have hbs0 : base ≤ w.heap.size := by have := HBS.out; omega
      go_upto_region 5 with fail
      generalize HVV : u3 = V at HO ⊢
      clear HVV
      refine wp_region_held_drew (S := fun w' => Below base w w') (by kernel_rfl) HB.out.drew (fun hHeld => ?_)
      replace HO := hide (HO.out.keptB (Below.refl _ _).drew)
      have HU := hide ((HU0.out.below ((Below.refl _ _).drew) (Nat.le_refl _)))
      refine take_d 14 (i := 0) (v := V) rfl (by kernel_rfl) (by kernel_rfl) (by kernel_rfl) (by kernel_rfl) (fun _ _ _ h => h) (Or.inl ⟨by kernel_rfl, fun w' hS => exec_move _ rfl _ rfl⟩) hHeld ?_
      try simp only [Act.put, List.setIfInBounds_toArray, List.set_cons_zero, List.set_cons_succ]
      refine take_d 15 (i := 1) (v := .slice (some ⟨bb, oo, none⟩) n c) rfl (by kernel_rfl) (by kernel_rfl) (by kernel_rfl) (by kernel_rfl) (fun _ _ _ h => h) (Or.inl ⟨by kernel_rfl, fun w' hS => exec_move _ rfl _ rfl⟩) hHeld ?_
      try simp only [Act.put, List.setIfInBounds_toArray, List.set_cons_zero, List.set_cons_succ]
      refine take_d 16 (i := 2) (v := .int .i64 (i : Int)) rfl (by kernel_rfl) (by kernel_rfl) (by kernel_rfl) (by kernel_rfl) (fun _ _ _ h => h) (Or.inl ⟨by kernel_rfl, fun w' hS => exec_move _ rfl _ rfl⟩) hHeld ?_
      try simp only [Act.put, List.setIfInBounds_toArray, List.set_cons_zero, List.set_cons_succ]
      refine take_d 17 (i := 3) (v := .pointer (some ⟨bb, oo + i * 2, none⟩)) rfl (by kernel_rfl) (by kernel_rfl) (by kernel_rfl) (by kernel_rfl) (fun _ _ _ h => h) (Or.inl ⟨by kernel_rfl, fun w' hS => exec_index_blob _ _ rfl _ n c bb oo i rfl rfl rfl hlt⟩) hHeld ?_
      try simp only [Act.put, List.setIfInBounds_toArray, List.set_cons_zero, List.set_cons_succ]
      refine take_d 18 (i := 4) (v := .pointer (some ⟨bb, oo + i * 2, none⟩)) rfl (by kernel_rfl) (by kernel_rfl) (by kernel_rfl) (by kernel_rfl) (fun _ _ _ h => h) (Or.inl ⟨by kernel_rfl, fun w' hS => exec_field_blobat _ 0 0 rfl bb _ rfl rfl⟩) hHeld ?_
      try simp only [Act.put, List.setIfInBounds_toArray, List.set_cons_zero, List.set_cons_succ]
      refine take_d 19 (i := 5) (v := .int .i64 X) rfl (by kernel_rfl) (by kernel_rfl) (by kernel_rfl) (by kernel_rfl) (fun _ _ _ h => h) (Or.inl ⟨by kernel_rfl, fun w' hS => exec_load_one _ _ rfl bb (oo + i * 2) rfl _ Tryd.underlying3 rfl _ ((hS.cell (p := ⟨bb, oo + i * 2, none⟩) hbb).trans HC1.out)⟩) hHeld ?_
      try simp only [Act.put, List.setIfInBounds_toArray, List.set_cons_zero, List.set_cons_succ]
      refine take_d 21 (i := 7) (v := .slice (some ⟨bb, oo, none⟩) n c) rfl (by kernel_rfl) (by kernel_rfl) (by kernel_rfl) (by kernel_rfl) (fun _ _ _ h => h) (Or.inl ⟨by kernel_rfl, fun w' hS => exec_move _ rfl _ rfl⟩) hHeld ?_
      try simp only [Act.put, List.setIfInBounds_toArray, List.set_cons_zero, List.set_cons_succ]
      refine take_d 22 (i := 8) (v := .int .i64 (i : Int)) rfl (by kernel_rfl) (by kernel_rfl) (by kernel_rfl) (by kernel_rfl) (fun _ _ _ h => h) (Or.inl ⟨by kernel_rfl, fun w' hS => exec_move _ rfl _ rfl⟩) hHeld ?_
      try simp only [Act.put, List.setIfInBounds_toArray, List.set_cons_zero, List.set_cons_succ]
      refine take_d 23 (i := 9) (v := .pointer (some ⟨bb, oo + i * 2, none⟩)) rfl (by kernel_rfl) (by kernel_rfl) (by kernel_rfl) (by kernel_rfl) (fun _ _ _ h => h) (Or.inl ⟨by kernel_rfl, fun w' hS => exec_index_blob _ _ rfl _ n c bb oo i rfl rfl rfl hlt⟩) hHeld ?_
      try simp only [Act.put, List.setIfInBounds_toArray, List.set_cons_zero, List.set_cons_succ]
      refine take_d 24 (i := 10) (v := .pointer (some ⟨bb, oo + i * 2 + 1, none⟩)) rfl (by kernel_rfl) (by kernel_rfl) (by kernel_rfl) (by kernel_rfl) (fun _ _ _ h => h) (Or.inl ⟨by kernel_rfl, fun w' hS => exec_field_blobat _ 1 1 rfl bb _ rfl rfl⟩) hHeld ?_
      try simp only [Act.put, List.setIfInBounds_toArray, List.set_cons_zero, List.set_cons_succ]
      refine take_d 25 (i := 11) (v := u) rfl (by kernel_rfl) (by kernel_rfl) (by kernel_rfl) (by kernel_rfl) (fun _ _ _ h => h) (Or.inl ⟨by kernel_rfl, fun w' hS => exec_load_one _ _ rfl bb (oo + i * 2 + 1) rfl _ Tryd.underlying26 rfl _ ((hS.cell (p := ⟨bb, oo + i * 2 + 1, none⟩) hbb).trans HC2.out)⟩) hHeld ?_
      try simp only [Act.put, List.setIfInBounds_toArray, List.set_cons_zero, List.set_cons_succ]
      refine wpAnyH_ready (rs := [6]) (by kernel_rfl) (by simp) (AllReadyH.cons rfl (fun K hK => ?_) AllReadyH.nil)
      rw [if_pos (by kernel_rfl)]
      try go_simp
      refine (Put_ref X 1 _ HXI.out (by omega)).mono ?_
      rintro e wp ⟨v1, rfl, ho1, hb1⟩
      replace HO := hide (HO.out.keptB hb1)
      have HX := hide (show Below base w _ from hHeld.trans (hb1.mono (Nat.le_trans hbs0 hHeld.size)))
      replace HU := hide ((HU.out.below hb1 (Nat.le_refl _)).more hb1.size)
      have HP := hide ho1
      clear ho1 hb1
      refine hK.out _ _ HX.out (fun hHeld => ?_)
      clear HX hK K
      try simp only [Act.put, List.setIfInBounds_toArray, List.set_cons_zero, List.set_cons_succ]
      refine wpAnyH_ready (rs := [12]) (by kernel_rfl) (by simp) (AllReadyH.cons rfl (fun K hK => ?_) AllReadyH.nil)
      rw [if_pos (by kernel_rfl)]
      refine wp_rows2D 26 rfl _ _ rfl v1 u rfl rfl HP.out.cells1 HUC.out ?_
      intro wl hbl hbb2
      replace HP := hide (HP.out.keptB hbb2)
      replace HO := hide (HO.out.keptB hbb2)
      have HX := hide (show Below base w _ from hHeld.trans (hbb2.mono (Nat.le_trans hbs0 hHeld.size)))
      replace HU := hide ((HU.out.below hbb2 (Nat.le_refl _)).more hbb2.size)
      have HR := hide (rows_two hbl HP.out.reads HU.out)
      clear hbl hbb2
      refine hK.out _ _ HX.out (fun hHeld => ?_)
      clear HX hK K
      try simp only [Act.put, List.setIfInBounds_toArray, List.set_cons_zero, List.set_cons_succ]
      refine wpAnyH_ready (rs := [13]) (by kernel_rfl) (by simp) (AllReadyH.cons rfl (fun K hK => ?_) AllReadyH.nil)
      rw [if_pos (by kernel_rfl)]
      try go_simp
      refine (Nets_ref _ [putF X 1, x2] _ HR.out HRB.out HRL.out (by simp)).mono ?_
      rintro e wn ⟨v24, rfl, ho2, hb2⟩
      replace HO := hide (HO.out.keptB hb2)
      have HX := hide (show Below base w _ from hHeld.trans (hb2.mono (Nat.le_trans hbs0 hHeld.size)))
      replace HU := hide ((HU.out.below hb2 (Nat.le_refl _)).more hb2.size)
      have HN2 := hide ho2
      clear ho2 hb2
      refine hK.out _ _ HX.out (fun hHeld => ?_)
      clear HX hK K
      try simp only [Act.put, List.setIfInBounds_toArray, List.set_cons_zero, List.set_cons_succ]
      refine wpAnyH_ready (rs := [14]) (by kernel_rfl) (by simp) (AllReadyH.cons rfl (fun K hK => ?_) AllReadyH.nil)
      rw [if_pos (by kernel_rfl)]
      refine wp_append_BD 28 rfl _ _ rfl base V _ rfl HO.out _ v24 (netsF [putF X 1, x2]) rfl HN2.out.reads HN2.out.bytes (by have h1 := HOL.out; have h2 := HNL.out; omega) (Nat.le_trans hbs0 hHeld.size) ?_
      intro v25 w25 ho25 hg25
      have HX := hide (show Below base w w25 from hHeld.grown hg25 (Nat.le_trans hbs0 hHeld.size) (fun k hk => (HO.out.base_ k hk).1))
      have HO2 := hide ho25
      clear ho25 hg25
      refine hK.out _ _ HX.out (fun hHeld => ?_)
      clear HX hK K
      try simp only [Act.put, List.setIfInBounds_toArray, List.set_cons_zero, List.set_cons_succ]
      refine take_d 3 (i := 15) (v := v25) rfl (by kernel_rfl) (by kernel_rfl) (by kernel_rfl) (by kernel_rfl) (fun _ _ _ h => h) (Or.inl ⟨by kernel_rfl, fun w' hS => exec_assign _ rfl _ rfl⟩) hHeld ?_
      try simp only [Act.put, List.setIfInBounds_toArray, List.set_cons_zero, List.set_cons_succ]
      refine wpAnyH_done (by kernel_rfl) ?_ _
      go_wp2_with fail
      go_roundw
      case measure => simp [intOf]; omega
      case rel => exact ⟨i + 1, by go_num, by omega, by rw [← HX1.out]; exact HO2.out, hHeld⟩
    · obtain rfl : i = n := by omega
      have hlt' : ¬ (i : Int) < (i : Int) := by omega
      have HE := hide (show l.take i = l from List.take_of_length_le (by rw [HN.out]; omega))
      rw [HE.out] at HO
      go_wp2_with fail
      go_ret
      exact ⟨_, rfl, HO.out, HB.out⟩
end Go.Proofs.YtfinfkodjkfibaaDoor
