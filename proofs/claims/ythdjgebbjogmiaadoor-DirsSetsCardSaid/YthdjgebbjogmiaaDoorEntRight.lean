/- aumbrylaw23.Right: entries that may be, made of any. No condition. -/
import Derived.Test.YthdjgebbjogmiaaDoorJoin21
import Derived.Test.YthdjgebbjogmiaaDoorJoin23
import Derived.Test.YthdjgebbjogmiaaDoorJoin5
import Derived.Test.YthdjgebbjogmiaaDoorJoin17
set_option linter.unusedVariables false
set_option linter.unusedSimpArgs false
namespace Go.Proofs.YthdjgebbjogmiaaDoor
open Go Go.RowKit
set_option linter.unusedVariables false
set_option linter.unusedSimpArgs false
set_option maxRecDepth 100000
set_option maxHeartbeats 16000000
theorem entright_0 (v : Value) (l : List EntD) (w : World) (hv : EntsB w w.heap.size v l) (hin : ∀ e ∈ l, e.In) :
 Calls Tryd.prog 13 #[v] w fun r w' => ∃ v', r = .returned v' ∧ OwnEnts w' w.heap.size 0 v' (rightsL l) ∧ Below w.heap.size w w' := by
 have HIN := hide hin
 obtain ⟨A, c, rfl, h1, h2, h3⟩ := hv
 unfold maxLen at h2
 have HA := hide h3
 obtain ⟨n, HN⟩ : ∃ k, Hid (l.length = k) := ⟨_, hide rfl⟩
 rw [HN.out] at h1 ⊢
 clear h3 hin
 have HBe := hide (Below.refl w.heap.size w)
 go_enter Tryd.func13, Tryd.ntmps13
 go_wp2_with fail
 go_loopw [3, 4] (fun v3 v4 wr => ∃ (i : Nat), v4 = .int .i64 (i : Int) ∧ (i ≤ n ∧ i ≤ 6) ∧ OwnEnts wr w.heap.size 0 v3 (rightsN l i) ∧ Below w.heap.size w wr) (fun _ v4 _ => n - (intOf v4).toNat)
 case atStart => exact ⟨0, by go_num, by omega, OwnEnts.nil_ _ (Nat.zero_le _), HBe.out⟩
 case round =>
  obtain ⟨i, rfl, hin, how, hb⟩ := hrel
  have HOWN := hide how
  have HB := hide hb
  have hzr : w.heap.size ≤ wr.heap.size := hb.size
  have HOL := hide (show (rightsN l i).length ≤ 1000000 by rw [rightsN_len]; omega)
  clear how hb HBe
  by_cases hlt : i < n ∧ i < 6
  · have hlt' : (i : Int) < (n : Int) := by omega
    have hl6i : (i : Int) < 6 := by omega
    have hl6 : i < 6 := hlt.2
    obtain ⟨b, o, rfl, hbb, hca⟩ := HA.out (by rw [HN.out]; omega)
    obtain ⟨la, lb, hok, hrg⟩ := hca i (by rw [HN.out]; exact hlt.1)
    have HAT := hide (rightsN_snoc l i (by rw [HN.out]; exact hlt.1))
    have hxin := HIN.out _ (List.getElem_mem (show i < l.length by rw [HN.out]; exact hlt.1))
    obtain ⟨x, HX⟩ : ∃ x, Hid (l[i]'(by rw [HN.out]; exact hlt.1) = x) := ⟨_, hide rfl⟩
    rw [HX.out] at hok hrg HAT hxin
    have HXOK := hide hok
    have HXIN := hide hxin
    have HRGw := hide (fun (W : World) (hW : Below w.heap.size w W) (j : Nat) (u : Value) (hu : (entC x la lb)[j]? = some u) => show W.cell? ⟨b, o + i * 108 + j, none⟩ = some u from (hW.cell (p := ⟨b, o + i * 108 + j, none⟩) hbb).trans (hrg j u hu))
    have HLA := hide (fun (W : World) (hW : Below w.heap.size w W) => show Bs W W.heap.size la x.read.lit from (hok.r1.below hW (Nat.le_refl _)).more hW.size)
    have HX0 := hide (show (entC x la lb)[0]? = some (.string (strOfNums x.name)) from ent_name)
    obtain ⟨qh, HHE⟩ : ∃ q, Hid (x.has = q) := ⟨_, hide rfl⟩
    have HXH := hide (show (entC x la lb)[107]? = some (.bool qh) by rw [← HHE.out]; exact ent_has hok)
    have HSR := hide (size_capL (c := x.read) (l := la) hok.rWf.keyL hok.rWf.fpL)
    obtain ⟨qr, HQR⟩ : ∃ q, Hid (readF (rightF x.read) = q) := ⟨_, hide rfl⟩
    obtain ⟨m, HM⟩ : ∃ k, Hid (min x.name.length 10 = k) := ⟨_, hide rfl⟩
    have HML := hide (show m ≤ x.name.length by rw [← HM.out]; omega)
    have HMIN := hide (show min (x.name.length : Int) 10 = (m : Int) by rw [← HM.out]; omega)
    have HTK := hide (show x.name.take m = x.name.take 10 by
     rw [← HM.out]
     by_cases h : x.name.length ≤ 10
     · rw [List.take_of_length_le (by omega), List.take_of_length_le h]
     · rw [show min x.name.length 10 = 10 by omega])
    obtain ⟨NMV, HNMV⟩ : ∃ s, Hid (strOfNums [97 + (i : Int)] ++ strOfNums (x.name.take m) = s) := ⟨_, hide rfl⟩
    have HNME := hide (show strOfNums ((97 + (i : Int)) :: x.name.take 10) = NMV by rw [← HNMV.out, strOf_app, HTK.out]; rfl)
    have HNSZ := hide (show (strOfNums [97 + (i : Int)]).size + (strOfNums (x.name.take m)).size ≤ 9223372036854775807 by
     rw [strOfNums_size, strOfNums_size, List.length_take]
     have := HM.out
     simp
     omega)
    have HBE := hide (show Tryd.prog.built 45 [(0, .string NMV)] = some (entC (⟨(97 + (i : Int)) :: x.name.take 10, CapD.none_, CapD.none_, false⟩ : EntD) (.slice none 0 0) (.slice none 0 0)).toArray by rw [built_entN]; unfold entC; rw [HNME.out])
    have HLX := hide (show LenE (⟨(97 + (i : Int)) :: x.name.take 10, CapD.none_, CapD.none_, false⟩ : EntD) ∧ LenW (⟨(97 + (i : Int)) :: x.name.take 10, CapD.none_, CapD.none_, false⟩ : EntD) from ⟨⟨rfl, rfl⟩, ⟨rfl, rfl⟩⟩)
    have HNC := hide (show wr.cell? ⟨b, o + i * 108, none⟩ = some (.string (strOfNums x.name)) by have := HRGw.out wr HB.out 0 _ HX0.out; rwa [Nat.add_zero] at this)
    have hbW : b < wr.heap.size := Nat.lt_of_lt_of_le hbb hzr
    clear hok hrg hca HX hlt hxin
    have HOLT0 := hide (fun (k : Nat) (hk : u3.ownBlock = some k) => show k < wr.heap.size from HOWN.out.lt k hk)
    go_upto_region 5 with go_skip
    try simp only [Act.put, s1_, s2_, s3_]
    go_cut [5] from 17 to 36 (fun v5 wx => ∃ g5, v5 = .pointer (some ⟨g5, 0, none⟩) ∧ wr.heap.size ≤ g5 ∧ Blk wx g5 45 (entC (⟨(97 + (i : Int)) :: x.name.take 10, CapD.none_, CapD.none_, false⟩ : EntD) (.slice none 0 0) (.slice none 0 0)) ∧ Below wr.heap.size wr wx)
    case first =>
     refine wp_region_held_drew (S := fun w' => Below wr.heap.size wr w') (by kernel_rfl) (Below.refl _ _).drew (fun hHeld => ?_)
     refine take_e 17 (i := 0) (v := .int .i64 ((i : Int))) rfl (by kernel_rfl) (Or.inl ⟨by kernel_rfl, fun w' hS => exec_move _ rfl (.int .i64 ((i : Int))) rfl⟩) hHeld ?_
     try simp only [Act.put, s1_, s2_, s3_]
     refine take_e 18 (i := 1) (v := .int .i64 (97 + (i : Int))) rfl (by kernel_rfl) (Or.inl ⟨by kernel_rfl, fun w' hS => exec_addG _ _ _ rfl _ _ _ rfl rfl (by omega) (by omega)⟩) hHeld ?_
     try simp only [Act.put, s1_, s2_, s3_]
     refine take_e 19 (i := 2) (v := .int .u8 (97 + (i : Int))) rfl (by kernel_rfl) (Or.inl ⟨by kernel_rfl, fun w' hS => exec_int_u8 _ _ rfl rfl (by omega) (by omega)⟩) hHeld ?_
     try simp only [Act.put, s1_, s2_, s3_]
     refine take_e 22 (i := 5) (v := .slice (some ⟨b, o, none⟩) n c) rfl (by kernel_rfl) (Or.inl ⟨by kernel_rfl, fun w' hS => exec_move _ rfl (.slice (some ⟨b, o, none⟩) n c) rfl⟩) hHeld ?_
     try simp only [Act.put, s1_, s2_, s3_]
     refine take_e 23 (i := 6) (v := .int .i64 ((i : Int))) rfl (by kernel_rfl) (Or.inl ⟨by kernel_rfl, fun w' hS => exec_move _ rfl (.int .i64 ((i : Int))) rfl⟩) hHeld ?_
     try simp only [Act.put, s1_, s2_, s3_]
     refine take_e 24 (i := 7) (v := .pointer (some ⟨b, o + i * 108, none⟩)) rfl (by kernel_rfl) (Or.inl ⟨by kernel_rfl, fun w' hS => exec_indexG _ _ _ rfl _ n c b o 108 i rfl rfl rfl (by omega) (by kernel_rfl) _ (by omega)⟩) hHeld ?_
     try simp only [Act.put, s1_, s2_, s3_]
     refine take_e 25 (i := 8) (v := .pointer (some ⟨b, o + i * 108, none⟩)) rfl (by kernel_rfl) (Or.inl ⟨by kernel_rfl, fun w' hS => exec_fieldG _ _ 0 0 rfl b (o + i * 108) rfl (by kernel_rfl) _ (by first | rfl | omega)⟩) hHeld ?_
     try simp only [Act.put, s1_, s2_, s3_]
     refine take_e 26 (i := 9) (v := .string (strOfNums x.name)) rfl (by kernel_rfl) (Or.inl ⟨by kernel_rfl, fun w' hS => exec_load_one _ _ rfl b (o + i * 108) rfl _ Tryd.underlying9 rfl _ ((hS.cell (p := ⟨b, o + i * 108, none⟩) hbW).trans HNC.out)⟩) hHeld ?_
     try simp only [Act.put, s1_, s2_, s3_]
     refine take_e 27 (i := 10) (v := .slice (some ⟨b, o, none⟩) n c) rfl (by kernel_rfl) (Or.inl ⟨by kernel_rfl, fun w' hS => exec_move _ rfl (.slice (some ⟨b, o, none⟩) n c) rfl⟩) hHeld ?_
     try simp only [Act.put, s1_, s2_, s3_]
     refine take_e 28 (i := 11) (v := .int .i64 ((i : Int))) rfl (by kernel_rfl) (Or.inl ⟨by kernel_rfl, fun w' hS => exec_move _ rfl (.int .i64 ((i : Int))) rfl⟩) hHeld ?_
     try simp only [Act.put, s1_, s2_, s3_]
     refine take_e 29 (i := 12) (v := .pointer (some ⟨b, o + i * 108, none⟩)) rfl (by kernel_rfl) (Or.inl ⟨by kernel_rfl, fun w' hS => exec_indexG _ _ _ rfl _ n c b o 108 i rfl rfl rfl (by omega) (by kernel_rfl) _ (by omega)⟩) hHeld ?_
     try simp only [Act.put, s1_, s2_, s3_]
     refine take_e 30 (i := 13) (v := .pointer (some ⟨b, o + i * 108, none⟩)) rfl (by kernel_rfl) (Or.inl ⟨by kernel_rfl, fun w' hS => exec_fieldG _ _ 0 0 rfl b (o + i * 108) rfl (by kernel_rfl) _ (by first | rfl | omega)⟩) hHeld ?_
     try simp only [Act.put, s1_, s2_, s3_]
     refine take_e 31 (i := 14) (v := .string (strOfNums x.name)) rfl (by kernel_rfl) (Or.inl ⟨by kernel_rfl, fun w' hS => exec_load_one _ _ rfl b (o + i * 108) rfl _ Tryd.underlying9 rfl _ ((hS.cell (p := ⟨b, o + i * 108, none⟩) hbW).trans HNC.out)⟩) hHeld ?_
     try simp only [Act.put, s1_, s2_, s3_]
     refine take_e 32 (i := 15) (v := .int .i64 ((x.name.length : Int))) rfl (by kernel_rfl) (Or.inl ⟨by kernel_rfl, fun w' hS => exec_len_strM _ rfl x.name rfl⟩) hHeld ?_
     try simp only [Act.put, s1_, s2_, s3_]
     refine take_e 33 (i := 16) (v := .int .i64 ((m : Int))) rfl (by kernel_rfl) (Or.inl ⟨by kernel_rfl, fun w' hS => exec_minG _ _ rfl _ _ _ rfl rfl HMIN.out⟩) hHeld ?_
     try simp only [Act.put, s1_, s2_, s3_]
     refine take_e 34 (i := 17) (v := .string (strOfNums (x.name.take m))) rfl (by kernel_rfl) (Or.inl ⟨by kernel_rfl, fun w' hS => exec_slice_name _ _ rfl x.name rfl m rfl HML.out⟩) hHeld ?_
     try simp only [Act.put, s1_, s2_, s3_]
     refine wpAnyH_ready (rs := [3, 20]) (by kernel_rfl) (by simp) (AllReadyH.cons rfl (fun K hK => ?q1_3) (AllReadyH.cons rfl (fun K hK => ?q2_20) AllReadyH.nil))
     case q1_3 =>
      rw [if_pos (by kernel_rfl)]
      refine wp_lit1D _ rfl 20 rfl (97 + (i : Int)) rfl ?_
      intro g20 w20 bk20 hg20 hb20
      have BK := hide bk20
      try replace H5 := hide (H5.out.below hb20 H5.out.lt)
      have HX := hide (hHeld.trans (hb20.mono hHeld.size))
      clear bk20 hg20 hb20
      refine hK.out _ _ HX.out (fun hHeld => ?_)
      clear HX hK K
      try simp only [Act.put, s1_, s2_, s3_]
      refine wpAnyH_ready (rs := [4, 20]) (by kernel_rfl) (by simp) (AllReadyH.cons rfl (fun K hK => ?q3_4) (AllReadyH.cons rfl (fun K hK => ?q4_20) AllReadyH.nil))
      case q3_4 =>
       rw [if_pos (by kernel_rfl)]
       refine wp_to_stringD 21 rfl _ rfl _ (.slice (some ⟨g20, 0, none⟩) 1 1) [97 + (i : Int)] rfl (BK.out.reads rfl (by omega)) ?_
       refine hK.out _ _ hHeld (fun hHeld => ?_)
       clear hK K
       try simp only [Act.put, s1_, s2_, s3_]
       refine take_e 35 (i := 18) (v := .string NMV) rfl (by kernel_rfl) (Or.inl ⟨by kernel_rfl, fun w' hS => (by rw [← HNMV.out]; exact exec_add _ _ rfl _ _ rfl rfl HNSZ.out)⟩) hHeld ?_
       try simp only [Act.put, s1_, s2_, s3_]
       refine take_e 36 (i := 19) (v := .agg (entC (⟨(97 + (i : Int)) :: x.name.take 10, CapD.none_, CapD.none_, false⟩ : EntD) (.slice none 0 0) (.slice none 0 0)).toArray) rfl (by kernel_rfl) (Or.inl ⟨by kernel_rfl, fun w' hS => exec_build1 _ 0 _ rfl (.string NMV) rfl (entC (⟨(97 + (i : Int)) :: x.name.take 10, CapD.none_, CapD.none_, false⟩ : EntD) (.slice none 0 0) (.slice none 0 0)) HBE.out⟩) hHeld ?_
       try simp only [Act.put, s1_, s2_, s3_]
       refine wpAnyH_ready (rs := [20]) (by kernel_rfl) (by simp) (AllReadyH.cons rfl (fun K hK => ?_) AllReadyH.nil)
       rw [if_pos (by kernel_rfl)]
       refine wp_alloc_blkG 45 5 rfl rfl _ zero_ent ?_
       intro g5 w5 hl5 hb5 hw5
       have H5 := hide hb5
       have HG5 := hide (Nat.le_trans hHeld.size hl5)
       try replace BK := hide (BK.out.below hw5 BK.out.lt)
       have HX := hide (hHeld.trans (hw5.mono hHeld.size))
       clear hl5 hb5 hw5
       refine hK.out _ _ HX.out (fun hHeld => ?_)
       clear HX hK K
       try simp only [Act.put, s1_, s2_, s3_]
       refine wpAnyH_ready (rs := [21]) (by kernel_rfl) (by simp) (AllReadyH.cons rfl (fun K hK => ?_) AllReadyH.nil)
       rw [if_pos (by kernel_rfl)]
       refine wp_store_blkD 45 _ _ rfl rfl g5 0 (entC (⟨(97 + (i : Int)) :: x.name.take 10, CapD.none_, CapD.none_, false⟩ : EntD) (.slice none 0 0) (.slice none 0 0)) rfl rfl 45 (entC EntD.none_ (.slice none 0 0) (.slice none 0 0)) H5.out (by rw [ent_lenL HLX.out.1 HLX.out.2, ent_lenL none_LE.1 none_LE.2]; omega) (size_entL HLX.out.1 HLX.out.2) (ent_oneL rfl rfl) ?_
       intro w21 hb21 hg21 hs21
       rw [lset_all _ _ (by rw [ent_lenL HLX.out.1 HLX.out.2, ent_lenL none_LE.1 none_LE.2])] at hb21
       replace H5 := hide hb21
       have HX := hide (hHeld.grown hg21 hHeld.size (by intro k hk; injection hk; have := HG5.out; omega))
       clear hb21 hg21 hs21
       refine hK.out _ _ HX.out (fun hHeld => ?_)
       clear HX hK K
       try simp only [Act.put, s1_, s2_, s3_]
       refine wpAnyH_done (by kernel_rfl) ?_ _
       go_wp2_with fail
       go_meet
       exact ⟨g5, rfl, HG5.out, H5.out, hHeld⟩
      case q4_20 =>
       rw [if_pos (by kernel_rfl)]
       refine wp_alloc_blkG 45 5 rfl rfl _ zero_ent ?_
       intro g5 w5 hl5 hb5 hw5
       have H5 := hide hb5
       have HG5 := hide (Nat.le_trans hHeld.size hl5)
       try replace BK := hide (BK.out.below hw5 BK.out.lt)
       have HX := hide (hHeld.trans (hw5.mono hHeld.size))
       clear hl5 hb5 hw5
       refine hK.out _ _ HX.out (fun hHeld => ?_)
       clear HX hK K
       try simp only [Act.put, s1_, s2_, s3_]
       refine wpAnyH_ready (rs := [4]) (by kernel_rfl) (by simp) (AllReadyH.cons rfl (fun K hK => ?_) AllReadyH.nil)
       rw [if_pos (by kernel_rfl)]
       refine wp_to_stringD 21 rfl _ rfl _ (.slice (some ⟨g20, 0, none⟩) 1 1) [97 + (i : Int)] rfl (BK.out.reads rfl (by omega)) ?_
       refine hK.out _ _ hHeld (fun hHeld => ?_)
       clear hK K
       try simp only [Act.put, s1_, s2_, s3_]
       refine take_e 35 (i := 18) (v := .string NMV) rfl (by kernel_rfl) (Or.inl ⟨by kernel_rfl, fun w' hS => (by rw [← HNMV.out]; exact exec_add _ _ rfl _ _ rfl rfl HNSZ.out)⟩) hHeld ?_
       try simp only [Act.put, s1_, s2_, s3_]
       refine take_e 36 (i := 19) (v := .agg (entC (⟨(97 + (i : Int)) :: x.name.take 10, CapD.none_, CapD.none_, false⟩ : EntD) (.slice none 0 0) (.slice none 0 0)).toArray) rfl (by kernel_rfl) (Or.inl ⟨by kernel_rfl, fun w' hS => exec_build1 _ 0 _ rfl (.string NMV) rfl (entC (⟨(97 + (i : Int)) :: x.name.take 10, CapD.none_, CapD.none_, false⟩ : EntD) (.slice none 0 0) (.slice none 0 0)) HBE.out⟩) hHeld ?_
       try simp only [Act.put, s1_, s2_, s3_]
       refine wpAnyH_ready (rs := [21]) (by kernel_rfl) (by simp) (AllReadyH.cons rfl (fun K hK => ?_) AllReadyH.nil)
       rw [if_pos (by kernel_rfl)]
       refine wp_store_blkD 45 _ _ rfl rfl g5 0 (entC (⟨(97 + (i : Int)) :: x.name.take 10, CapD.none_, CapD.none_, false⟩ : EntD) (.slice none 0 0) (.slice none 0 0)) rfl rfl 45 (entC EntD.none_ (.slice none 0 0) (.slice none 0 0)) H5.out (by rw [ent_lenL HLX.out.1 HLX.out.2, ent_lenL none_LE.1 none_LE.2]; omega) (size_entL HLX.out.1 HLX.out.2) (ent_oneL rfl rfl) ?_
       intro w21 hb21 hg21 hs21
       rw [lset_all _ _ (by rw [ent_lenL HLX.out.1 HLX.out.2, ent_lenL none_LE.1 none_LE.2])] at hb21
       replace H5 := hide hb21
       have HX := hide (hHeld.grown hg21 hHeld.size (by intro k hk; injection hk; have := HG5.out; omega))
       clear hb21 hg21 hs21
       refine hK.out _ _ HX.out (fun hHeld => ?_)
       clear HX hK K
       try simp only [Act.put, s1_, s2_, s3_]
       refine wpAnyH_done (by kernel_rfl) ?_ _
       go_wp2_with fail
       go_meet
       exact ⟨g5, rfl, HG5.out, H5.out, hHeld⟩
     case q2_20 =>
      rw [if_pos (by kernel_rfl)]
      refine wp_alloc_blkG 45 5 rfl rfl _ zero_ent ?_
      intro g5 w5 hl5 hb5 hw5
      have H5 := hide hb5
      have HG5 := hide (Nat.le_trans hHeld.size hl5)
      try replace BK := hide (BK.out.below hw5 BK.out.lt)
      have HX := hide (hHeld.trans (hw5.mono hHeld.size))
      clear hl5 hb5 hw5
      refine hK.out _ _ HX.out (fun hHeld => ?_)
      clear HX hK K
      try simp only [Act.put, s1_, s2_, s3_]
      refine wpAnyH_ready (rs := [3]) (by kernel_rfl) (by simp) (AllReadyH.cons rfl (fun K hK => ?_) AllReadyH.nil)
      rw [if_pos (by kernel_rfl)]
      refine wp_lit1D _ rfl 20 rfl (97 + (i : Int)) rfl ?_
      intro g20 w20 bk20 hg20 hb20
      have BK := hide bk20
      try replace H5 := hide (H5.out.below hb20 H5.out.lt)
      have HX := hide (hHeld.trans (hb20.mono hHeld.size))
      clear bk20 hg20 hb20
      refine hK.out _ _ HX.out (fun hHeld => ?_)
      clear HX hK K
      try simp only [Act.put, s1_, s2_, s3_]
      refine wpAnyH_ready (rs := [4]) (by kernel_rfl) (by simp) (AllReadyH.cons rfl (fun K hK => ?_) AllReadyH.nil)
      rw [if_pos (by kernel_rfl)]
      refine wp_to_stringD 21 rfl _ rfl _ (.slice (some ⟨g20, 0, none⟩) 1 1) [97 + (i : Int)] rfl (BK.out.reads rfl (by omega)) ?_
      refine hK.out _ _ hHeld (fun hHeld => ?_)
      clear hK K
      try simp only [Act.put, s1_, s2_, s3_]
      refine take_e 35 (i := 18) (v := .string NMV) rfl (by kernel_rfl) (Or.inl ⟨by kernel_rfl, fun w' hS => (by rw [← HNMV.out]; exact exec_add _ _ rfl _ _ rfl rfl HNSZ.out)⟩) hHeld ?_
      try simp only [Act.put, s1_, s2_, s3_]
      refine take_e 36 (i := 19) (v := .agg (entC (⟨(97 + (i : Int)) :: x.name.take 10, CapD.none_, CapD.none_, false⟩ : EntD) (.slice none 0 0) (.slice none 0 0)).toArray) rfl (by kernel_rfl) (Or.inl ⟨by kernel_rfl, fun w' hS => exec_build1 _ 0 _ rfl (.string NMV) rfl (entC (⟨(97 + (i : Int)) :: x.name.take 10, CapD.none_, CapD.none_, false⟩ : EntD) (.slice none 0 0) (.slice none 0 0)) HBE.out⟩) hHeld ?_
      try simp only [Act.put, s1_, s2_, s3_]
      refine wpAnyH_ready (rs := [21]) (by kernel_rfl) (by simp) (AllReadyH.cons rfl (fun K hK => ?_) AllReadyH.nil)
      rw [if_pos (by kernel_rfl)]
      refine wp_store_blkD 45 _ _ rfl rfl g5 0 (entC (⟨(97 + (i : Int)) :: x.name.take 10, CapD.none_, CapD.none_, false⟩ : EntD) (.slice none 0 0) (.slice none 0 0)) rfl rfl 45 (entC EntD.none_ (.slice none 0 0) (.slice none 0 0)) H5.out (by rw [ent_lenL HLX.out.1 HLX.out.2, ent_lenL none_LE.1 none_LE.2]; omega) (size_entL HLX.out.1 HLX.out.2) (ent_oneL rfl rfl) ?_
      intro w21 hb21 hg21 hs21
      rw [lset_all _ _ (by rw [ent_lenL HLX.out.1 HLX.out.2, ent_lenL none_LE.1 none_LE.2])] at hb21
      replace H5 := hide hb21
      have HX := hide (hHeld.grown hg21 hHeld.size (by intro k hk; injection hk; have := HG5.out; omega))
      clear hb21 hg21 hs21
      refine hK.out _ _ HX.out (fun hHeld => ?_)
      clear HX hK K
      try simp only [Act.put, s1_, s2_, s3_]
      refine wpAnyH_done (by kernel_rfl) ?_ _
      go_wp2_with fail
      go_meet
      exact ⟨g5, rfl, HG5.out, H5.out, hHeld⟩
    obtain ⟨g5, rfl, hg5, hb5, hS⟩ := hcut
    have H5 := hide hb5
    replace HOWN := hide (HOWN.out.keptB hS hzr)
    replace HB := hide (HB.out.trans (hS.mono hzr))
    have hg5w : w.heap.size ≤ g5 := Nat.le_trans hzr hg5
    have HOLT := hide (fun (k : Nat) (hk : u3.ownBlock = some k) => show k < g5 from Nat.lt_of_lt_of_le (HOLT0.out k hk) hg5)
    clear hb5 hS HNC HOLT0
    have HRR := hide (fun (j : Nat) (u : Value) (hu : (capCells x.read la)[j]? = some u) => show wc.cell? ⟨b, o + i * 108 + 1 + j, none⟩ = some u by rw [Nat.add_assoc]; exact HRGw.out wc HB.out (1 + j) u (ent_read HXOK.out j u hu))
    go_wp2_with (first
     | go_skip
     | (refine wpList_val_ rfl (exec_loadAll 28 _ rfl b (o + i * 108 + 1) rfl _ (capCells x.read la) HRR.out Tryd.underlying28 rfl HSR.out) ?_))
    refine (right_any x.read la _ HXIN.out.r (HLA.out _ HB.out)).mono ?_
    rintro e w6 ⟨l6, rfl, ho6, hb6⟩
    have HL6 := hide (ho6.more HB.out.size)
    replace H5 := hide (H5.out.below hb6 H5.out.lt)
    replace HOWN := hide (HOWN.out.keptB hb6 HB.out.size)
    replace HB := hide (HB.out.trans (hb6.mono HB.out.size))
    have hg56 : g5 < w6.heap.size := H5.out.lt
    clear ho6 hb6 HRR
    obtain ⟨g6, HG6⟩ : ∃ k, Hid (w6.heap.size = k) := ⟨_, hide rfl⟩
    have hg6 : g5 < g6 ∧ g6 ≤ w6.heap.size ∧ w.heap.size ≤ g6 := by have := HG6.out; omega
    have HRFW := hide (right_wf HXOK.out.rWf)
    go_wp2_with (first
     | go_skip
     | (refine wpList_cap_zero rfl rfl ?_; intro w6a hb6a hw6a hs6a; rw [HG6.out] at hb6a; try rw [HG6.out]; have H6 := hide hb6a; replace H5 := hide (H5.out.below hw6a H5.out.lt); replace HL6 := hide (HL6.out.keptB hw6a); replace HOWN := hide (HOWN.out.keptB hw6a HB.out.size); replace HB := hide (HB.out.trans (hw6a.mono HB.out.size)); clear hb6a hw6a hs6a)
     | (refine wpList_cap_putAll _ _ rfl rfl rfl H6.out (rightF x.read) l6 rfl HRFW.out.keyL HRFW.out.fpL (bs_one_ HL6.out.reads) ?_; intro w6b hb6b hg6b hs6b; replace H5 := hide (H5.out.grown hg6b (by intro e; injection e; omega)); replace HL6 := hide (HL6.out.past_ H6.out.blk (by kernel_rfl) hg6b); replace HOWN := hide (HOWN.out.past H6.out.blk (by omega) (by kernel_rfl) (fun e => by have := HOLT.out _ e; omega) hg6b HB.out.size); replace H6 := hide hb6b; replace HB := hide (HB.out.grown hg6b HB.out.size (by intro k hk; injection hk; omega)); clear hb6b hg6b hs6b)
     | (refine wpList_cap_all _ rfl rfl rfl H6.out ?_))
    refine (read_ref (rightF x.read) l6 _ (capV_of HRFW.out.keyL HRFW.out.fpL HL6.out.reads)).mono ?_
    rintro e w7 ⟨rfl, hb7c⟩
    rw [HQR.out]
    replace HL6 := hide (HL6.out.keptB hb7c)
    replace H5 := hide (H5.out.below hb7c H5.out.lt)
    replace H6 := hide (H6.out.below hb7c H6.out.lt)
    replace HOWN := hide (HOWN.out.keptB hb7c HB.out.size)
    replace HB := hide (HB.out.trans (hb7c.mono HB.out.size))
    clear hb7c
    have HHC := hide (show w7.cell? ⟨b, o + i * 108 + 107, none⟩ = some (.bool qh) from HRGw.out w7 HB.out 107 _ HXH.out)
    rcases qh with _ | _
    case true =>
     rcases qr with _ | _
     case false =>
      have hb6 : b < g6 := by omega
      have hb7 : b < w7.heap.size := Nat.lt_of_lt_of_le hbb HB.out.size
      have HKC := hide (fun (j : Nat) (u : Value) (hu : (u8s x.read.key)[j]? = some u) => show w7.cell? ⟨b, o + i * 108 + 1 + 1 + j, none⟩ = some u by
       have := HRGw.out w7 HB.out (1 + (1 + j)) u (ent_read HXOK.out _ u (cc_key HXOK.out.rWf.keyL j u hu))
       rwa [show o + i * 108 + 1 + 1 + j = o + i * 108 + (1 + (1 + j)) by omega])
      have HFC := hide (fun (j : Nat) (u : Value) (hu : (u8s x.read.fp)[j]? = some u) => show w7.cell? ⟨b, o + i * 108 + 1 + 17 + j, none⟩ = some u by
       have := HRGw.out w7 HB.out (1 + (17 + j)) u (ent_read HXOK.out _ u (cc_fp HXOK.out.rWf.keyL HXOK.out.rWf.fpL j u hu))
       rwa [show o + i * 108 + 1 + 17 + j = o + i * 108 + (1 + (17 + j)) by omega])
      have HKS := hide (show (Tryd.prog.info? 23).map (·.size) = some (u8s x.read.key).length by rw [u8s_len, HXOK.out.rWf.keyL]; exact size_key)
      have HFS := hide (show (Tryd.prog.info? 25).map (·.size) = some (u8s x.read.fp).length by rw [u8s_len, HXOK.out.rWf.fpL]; exact size_hash)
      go_upto_region 8 with (first
       | go_skip
       | (refine wpList_val_ rfl (exec_load_one _ _ rfl b (o + i * 108 + 107) rfl _ Tryd.underlying4 rfl _ HHC.out) ?_))
      try simp only [Act.put, s1_, s2_, s3_]
      have H6p := H6
      have hzz : w.heap.size ≤ w7.heap.size := HB.out.size
      refine wp_region_held_drew (S := fun w' => w7.grownBy w' (some g6)) (by kernel_rfl) (World.grownBy.drewG _ _) (fun hHeld => ?_)
      replace H6 := hide H6.out.drew
      refine take_e 53 (i := 0) (v := .slice (some ⟨b, o, none⟩) n c) rfl (by kernel_rfl) (Or.inl ⟨by kernel_rfl, fun w' hS => exec_move _ rfl (.slice (some ⟨b, o, none⟩) n c) rfl⟩) hHeld ?_
      try simp only [Act.put, s1_, s2_, s3_]
      refine take_e 54 (i := 1) (v := .int .i64 ((i : Int))) rfl (by kernel_rfl) (Or.inl ⟨by kernel_rfl, fun w' hS => exec_move _ rfl (.int .i64 ((i : Int))) rfl⟩) hHeld ?_
      try simp only [Act.put, s1_, s2_, s3_]
      refine take_e 55 (i := 2) (v := .pointer (some ⟨b, o + i * 108, none⟩)) rfl (by kernel_rfl) (Or.inl ⟨by kernel_rfl, fun w' hS => exec_indexG _ _ _ rfl _ n c b o 108 i rfl rfl rfl (by omega) (by kernel_rfl) _ (by omega)⟩) hHeld ?_
      try simp only [Act.put, s1_, s2_, s3_]
      refine take_e 56 (i := 3) (v := .pointer (some ⟨b, o + i * 108 + 1, none⟩)) rfl (by kernel_rfl) (Or.inl ⟨by kernel_rfl, fun w' hS => exec_fieldG _ _ 1 1 rfl b (o + i * 108) rfl (by kernel_rfl) _ (by first | rfl | omega)⟩) hHeld ?_
      try simp only [Act.put, s1_, s2_, s3_]
      refine take_e 57 (i := 4) (v := .pointer (some ⟨b, o + i * 108 + 1 + 1, none⟩)) rfl (by kernel_rfl) (Or.inl ⟨by kernel_rfl, fun w' hS => exec_fieldG _ _ 1 1 rfl b (o + i * 108 + 1) rfl (by kernel_rfl) _ (by first | rfl | omega)⟩) hHeld ?_
      try simp only [Act.put, s1_, s2_, s3_]
      refine take_e 58 (i := 5) (v := .agg (u8s x.read.key).toArray) rfl (by kernel_rfl) (Or.inl ⟨by kernel_rfl, fun w' hS => exec_loadAll _ _ rfl b (o + i * 108 + 1 + 1) rfl _ _ (fun j u hu => (World.cell?_of_block (hS.block b hb7 (fun e => by injection e; omega))).trans (HKC.out j u hu)) Tryd.underlying23 rfl HKS.out⟩) hHeld ?_
      try simp only [Act.put, s1_, s2_, s3_]
      refine take_e 59 (i := 6) (v := .slice (some ⟨b, o, none⟩) n c) rfl (by kernel_rfl) (Or.inl ⟨by kernel_rfl, fun w' hS => exec_move _ rfl (.slice (some ⟨b, o, none⟩) n c) rfl⟩) hHeld ?_
      try simp only [Act.put, s1_, s2_, s3_]
      refine take_e 60 (i := 7) (v := .int .i64 ((i : Int))) rfl (by kernel_rfl) (Or.inl ⟨by kernel_rfl, fun w' hS => exec_move _ rfl (.int .i64 ((i : Int))) rfl⟩) hHeld ?_
      try simp only [Act.put, s1_, s2_, s3_]
      refine take_e 61 (i := 8) (v := .pointer (some ⟨b, o + i * 108, none⟩)) rfl (by kernel_rfl) (Or.inl ⟨by kernel_rfl, fun w' hS => exec_indexG _ _ _ rfl _ n c b o 108 i rfl rfl rfl (by omega) (by kernel_rfl) _ (by omega)⟩) hHeld ?_
      try simp only [Act.put, s1_, s2_, s3_]
      refine take_e 62 (i := 9) (v := .pointer (some ⟨b, o + i * 108 + 1, none⟩)) rfl (by kernel_rfl) (Or.inl ⟨by kernel_rfl, fun w' hS => exec_fieldG _ _ 1 1 rfl b (o + i * 108) rfl (by kernel_rfl) _ (by first | rfl | omega)⟩) hHeld ?_
      try simp only [Act.put, s1_, s2_, s3_]
      refine take_e 63 (i := 10) (v := .pointer (some ⟨b, o + i * 108 + 1 + 17, none⟩)) rfl (by kernel_rfl) (Or.inl ⟨by kernel_rfl, fun w' hS => exec_fieldG _ _ 2 17 rfl b (o + i * 108 + 1) rfl (by kernel_rfl) _ (by first | rfl | omega)⟩) hHeld ?_
      try simp only [Act.put, s1_, s2_, s3_]
      refine take_e 64 (i := 11) (v := .agg (u8s x.read.fp).toArray) rfl (by kernel_rfl) (Or.inl ⟨by kernel_rfl, fun w' hS => exec_loadAll _ _ rfl b (o + i * 108 + 1 + 17) rfl _ _ (fun j u hu => (World.cell?_of_block (hS.block b hb7 (fun e => by injection e; omega))).trans (HFC.out j u hu)) Tryd.underlying25 rfl HFS.out⟩) hHeld ?_
      try simp only [Act.put, s1_, s2_, s3_]
      refine wpAnyH_ready (rs := [12]) (by kernel_rfl) (by simp) (AllReadyH.cons rfl (fun K hK => ?_) AllReadyH.nil)
      rw [if_pos (by kernel_rfl)]
      try go_simp
      refine (Slot_ref x.read.key x.read.fp _ HXOK.out.rWf.keyL HXOK.out.rWf.keyB HXOK.out.rWf.fpL).mono ?_
      rintro e w65 ⟨rfl, hb65⟩
      replace H6 := hide (H6.out.below hb65 H6.out.lt)
      have HX := hide (World.grownBy.transG hHeld (Below.toGrown hb65 (some g6)))
      clear hb65
      refine hK.out _ _ HX.out (fun hHeld => ?_)
      clear HX hK K
      try simp only [Act.put, s1_, s2_, s3_]
      refine wpAnyH_ready (rs := [13]) (by kernel_rfl) (by simp) (AllReadyH.cons rfl (fun K hK => ?_) AllReadyH.nil)
      rw [if_pos (by kernel_rfl)]
      refine wp_store_blkD 28 _ _ rfl rfl g6 0 (capCells (slotF x.read.key x.read.fp) (.slice none 0 0)) rfl rfl _ _ H6.out.blk (by rw [cc_len _ H6.out.keyL H6.out.fpL, cc_len (c := slotF x.read.key x.read.fp) (.slice none 0 0) (keyF_len _ _) HXOK.out.rWf.fpL]; omega) (size_capL (keyF_len _ _) HXOK.out.rWf.fpL) (cap_ones rfl) ?_
      intro w66 hb66 hg66 hs66
      rw [lset_all _ _ (by rw [cc_len _ H6.out.keyL H6.out.fpL, cc_len (c := slotF x.read.key x.read.fp) (.slice none 0 0) (keyF_len _ _) HXOK.out.rWf.fpL])] at hb66
      clear H6
      have H6 := hide (show CapB _ g6 (slotF x.read.key x.read.fp) (.slice none 0 0) from ⟨hb66, keyF_len _ _, HXOK.out.rWf.fpL, rfl⟩)
      have HX := hide (World.grownBy.transG hHeld hg66)
      clear hb66 hg66 hs66
      refine hK.out _ _ HX.out (fun hHeld => ?_)
      clear HX hK K
      try simp only [Act.put, s1_, s2_, s3_]
      refine wpAnyH_done (by kernel_rfl) ?_ _
      have hHD := hHeld
      replace H5 := hide (H5.out.grown hHD (by intro e; injection e; omega))
      replace HOWN := hide (HOWN.out.past H6p.out.blk (by omega) (by kernel_rfl) (fun e => by have := HOLT.out _ e; omega) hHD hzz)
      replace HB := hide (HB.out.grown hHD hzz (by intro k hk; injection hk; omega))
      clear hHD hHeld HKC HFC
      have HCW := hide (show (slotF x.read.key x.read.fp).Wf from slotF_wf HXOK.out.rWf.fpL HXOK.out.rWf.fpB)
      have HVL := hide (fun (W : World) => show Bs W W.heap.size (.slice none 0 0) (slotF x.read.key x.read.fp).lit from Bs.nil_ _ _)
      have HVN := hide (show (slotF x.read.key x.read.fp).lit.length ≤ 1000000 by show ([] : List Int).length ≤ _; simp)
      have HRCE := hide (show rcapE x = slotF x.read.key x.read.fp by unfold rcapE; rw [if_pos (by rw [HQR.out, HHE.out]; rfl)])
      have HWRF := hide (slotF_write x.read.key x.read.fp)
      go_wp2_with (first
       | go_skip
       | go_skip
       | (refine wpList_cap_all _ rfl rfl rfl H6.out ?_))
      refine (ReadOnly_refR (slotF x.read.key x.read.fp) (.slice none 0 0) _ HCW.out (HVL.out _) HVN.out).mono ?_
      rintro e w9 ⟨l9, rfl, hl9, hb9⟩
      have HL9 := hide (hl9.more HB.out.size)
      replace H5 := hide (H5.out.below hb9 H5.out.lt)
      replace H6 := hide (H6.out.below hb9 H6.out.lt)
      replace HOWN := hide (HOWN.out.keptB hb9 HB.out.size)
      replace HB := hide (HB.out.trans (hb9.mono HB.out.size))
      clear hl9 hb9
      have HRW := hide (roF_wf HCW.out)
      go_wp2_with (first
       | go_skip
       | go_skip
       | (refine wpList_store_blk rfl 28 _ _ rfl g5 1 (capCells (roF (slotF x.read.key x.read.fp)) l9) rfl rfl _ _ H5.out (by rw [ent_lenL HLX.out.1 HLX.out.2, cc_len l9 HRW.out.keyL HRW.out.fpL]; omega) (size_capL HRW.out.keyL HRW.out.fpL) (cap_ones (bs_one_ HL9.out.reads)) ?_; intro wp hbp hgp hsp; rw [ent_setRead HLX.out.1 (roF (slotF x.read.key x.read.fp)) l9 HRW.out.keyL HRW.out.fpL] at hbp; replace H6 := hide (H6.out.grown hgp (by intro e; injection e; omega)); replace HL9 := hide (HL9.out.pastE H5.out (by kernel_rfl) hgp); replace HOWN := hide (HOWN.out.past H5.out (by omega) (by kernel_rfl) (fun e => Nat.lt_irrefl _ (HOLT.out _ e)) hgp HB.out.size); replace H5 := hide hbp; replace HB := hide (HB.out.grown hgp HB.out.size (by intro k hk; injection hk; omega)); clear hbp hgp hsp)
       | (refine wpList_cap_all _ rfl rfl rfl H6.out ?_))
      refine (write_ref (slotF x.read.key x.read.fp) (.slice none 0 0) _ (capV_of HCW.out.keyL HCW.out.fpL (HVL.out w9))).mono ?_
      rintro e w10 ⟨rfl, hb10⟩
      rw [HWRF.out]
      replace HL9 := hide (HL9.out.keptB hb10)
      replace H5 := hide (H5.out.below hb10 H5.out.lt)
      replace H6 := hide (H6.out.below hb10 H6.out.lt)
      replace HOWN := hide (HOWN.out.keptB hb10 HB.out.size)
      replace HB := hide (HB.out.trans (hb10.mono HB.out.size))
      clear hb10
      have HHC := hide (show w10.cell? ⟨b, o + i * 108 + 107, none⟩ = some (.bool true) from HRGw.out w10 HB.out 107 _ HXH.out)
      have HLR := hide (show LenE ({ (⟨(97 + (i : Int)) :: x.name.take 10, CapD.none_, CapD.none_, false⟩ : EntD) with read := roF (slotF x.read.key x.read.fp) } : EntD) ∧ LenW ({ (⟨(97 + (i : Int)) :: x.name.take 10, CapD.none_, CapD.none_, false⟩ : EntD) with read := roF (slotF x.read.key x.read.fp) } : EntD) from ⟨⟨HRW.out.keyL, HRW.out.fpL⟩, ⟨rfl, rfl⟩⟩)
      have HLW := hide (show LenE ({ ({ (⟨(97 + (i : Int)) :: x.name.take 10, CapD.none_, CapD.none_, false⟩ : EntD) with read := roF (slotF x.read.key x.read.fp) } : EntD) with write := (slotF x.read.key x.read.fp) } : EntD) ∧ LenW ({ ({ (⟨(97 + (i : Int)) :: x.name.take 10, CapD.none_, CapD.none_, false⟩ : EntD) with read := roF (slotF x.read.key x.read.fp) } : EntD) with write := (slotF x.read.key x.read.fp) } : EntD) from ⟨⟨HRW.out.keyL, HRW.out.fpL⟩, ⟨HCW.out.keyL, HCW.out.fpL⟩⟩)
      have HFE := hide (show ({ ({ ({ (⟨(97 + (i : Int)) :: x.name.take 10, CapD.none_, CapD.none_, false⟩ : EntD) with read := roF (slotF x.read.key x.read.fp) } : EntD) with write := (slotF x.read.key x.read.fp) } : EntD) with has := true } : EntD) = rightE i x by unfold rightE; rw [HRCE.out, HWRF.out, HHE.out]; rfl)
      have HSZE := hide (show (Tryd.prog.info? 45).map (·.size) = some (entC ({ ({ ({ (⟨(97 + (i : Int)) :: x.name.take 10, CapD.none_, CapD.none_, false⟩ : EntD) with read := roF (slotF x.read.key x.read.fp) } : EntD) with write := (slotF x.read.key x.read.fp) } : EntD) with has := true } : EntD) l9 (.slice none 0 0)).length by rw [HFE.out]; exact size_entL (rightE_wf hl6 HXOK.out.toWf).lens.1 (rightE_wf hl6 HXOK.out.toWf).lens.2)
      go_wp2_with (first
       | go_skip
       | go_skip
       | (refine wpList_val_ rfl (exec_load_one _ _ rfl b (o + i * 108 + 107) rfl _ Tryd.underlying4 rfl _ HHC.out) ?_)
       | (refine wpList_cap_all _ rfl rfl rfl H6.out ?_)
       | (refine wpList_store_blk rfl 28 _ _ rfl g5 54 (capCells (slotF x.read.key x.read.fp) (.slice none 0 0)) rfl rfl _ _ H5.out (by rw [ent_lenL HLR.out.1 HLR.out.2, cc_len (.slice none 0 0) HCW.out.keyL HCW.out.fpL]; omega) (size_capL HCW.out.keyL HCW.out.fpL) (cap_ones rfl) ?_; intro wp2 hbp hgp hsp; rw [ent_setWrite HLR.out.1 HLR.out.2 (slotF x.read.key x.read.fp) (.slice none 0 0) HCW.out.keyL HCW.out.fpL] at hbp; replace HL9 := hide (HL9.out.pastE H5.out (by kernel_rfl) hgp); replace HOWN := hide (HOWN.out.past H5.out (by omega) (by kernel_rfl) (fun e => Nat.lt_irrefl _ (HOLT.out _ e)) hgp HB.out.size); replace H5 := hide hbp; replace HB := hide (HB.out.grown hgp HB.out.size (by intro k hk; injection hk; omega)); clear hbp hgp hsp)
       | (refine wpList_st_put 4 _ _ rfl 107 rfl rfl H5.out (by rw [ent_lenL HLW.out.1 HLW.out.2]; omega) (.bool true) rfl rfl (by kernel_rfl) ?_; intro wp3 hbp hgp hsp; rw [ent_setHas HLW.out.1 HLW.out.2 true] at hbp; replace HL9 := hide (HL9.out.pastE H5.out (by kernel_rfl) hgp); replace HOWN := hide (HOWN.out.past H5.out (by omega) (by kernel_rfl) (fun e => Nat.lt_irrefl _ (HOLT.out _ e)) hgp HB.out.size); replace H5 := hide hbp; replace HB := hide (HB.out.grown hgp HB.out.size (by intro k hk; injection hk; omega)); clear hbp hgp hsp)
       | (refine wpList_st_all 45 _ rfl rfl rfl H5.out _ Tryd.underlying45 rfl HSZE.out ?_; rw [HFE.out]; have HYx := hide (show (EntL.mk (rightE i x) l9 (.slice none 0 0)).Ok _ 0 from ⟨rightE_wf hl6 HXOK.out.toWf, (show LitB _ 0 l9 (rightE i x).read.lit by rw [← HFE.out]; exact HL9.out.litB), (show LitB _ 0 (.slice none 0 0) (rightE i x).write.lit by rw [← HFE.out]; exact LitB.nil_ _ _)⟩); have hze := HB.out.size)
       | (refine wpList_lit_ent rfl _ rfl (EntL.mk (rightE i x) l9 (.slice none 0 0)) HYx.out.wf rfl ?_)
       | (at_builtin; refine wpList_append_ent rfl _ _ rfl w.heap.size 0 u3 (rightsN l i) rfl HOWN.out hze HOL.out (EntL.mk (rightE i x) l9 (.slice none 0 0)) HYx.out rfl ?_; intro vz wz hoz hpz hkz; rw [← HAT.out] at hoz; have HOWNb := hide hoz; replace HB := hide (HB.out.trans hpz); clear hoz hpz hkz))
      go_roundw
      case measure => simp [intOf]; omega
      case rel => exact ⟨i + 1, by go_num, by omega, HOWNb.out, HB.out⟩
     case true =>
      have hb6 : b < g6 := by omega
      have hb7 : b < w7.heap.size := Nat.lt_of_lt_of_le hbb HB.out.size
      have HKC := hide (fun (j : Nat) (u : Value) (hu : (u8s x.read.key)[j]? = some u) => show w7.cell? ⟨b, o + i * 108 + 1 + 1 + j, none⟩ = some u by
       have := HRGw.out w7 HB.out (1 + (1 + j)) u (ent_read HXOK.out _ u (cc_key HXOK.out.rWf.keyL j u hu))
       rwa [show o + i * 108 + 1 + 1 + j = o + i * 108 + (1 + (1 + j)) by omega])
      have HFC := hide (fun (j : Nat) (u : Value) (hu : (u8s x.read.fp)[j]? = some u) => show w7.cell? ⟨b, o + i * 108 + 1 + 17 + j, none⟩ = some u by
       have := HRGw.out w7 HB.out (1 + (17 + j)) u (ent_read HXOK.out _ u (cc_fp HXOK.out.rWf.keyL HXOK.out.rWf.fpL j u hu))
       rwa [show o + i * 108 + 1 + 17 + j = o + i * 108 + (1 + (17 + j)) by omega])
      have HKS := hide (show (Tryd.prog.info? 23).map (·.size) = some (u8s x.read.key).length by rw [u8s_len, HXOK.out.rWf.keyL]; exact size_key)
      have HFS := hide (show (Tryd.prog.info? 25).map (·.size) = some (u8s x.read.fp).length by rw [u8s_len, HXOK.out.rWf.fpL]; exact size_hash)
      go_upto_region 8 with (first
       | go_skip
       | (refine wpList_val_ rfl (exec_load_one _ _ rfl b (o + i * 108 + 107) rfl _ Tryd.underlying4 rfl _ HHC.out) ?_))
      try simp only [Act.put, s1_, s2_, s3_]
      have H6p := H6
      have hzz : w.heap.size ≤ w7.heap.size := HB.out.size
      refine wp_region_held_drew (S := fun w' => w7.grownBy w' (some g6)) (by kernel_rfl) (World.grownBy.drewG _ _) (fun hHeld => ?_)
      replace H6 := hide H6.out.drew
      refine take_e 53 (i := 0) (v := .slice (some ⟨b, o, none⟩) n c) rfl (by kernel_rfl) (Or.inl ⟨by kernel_rfl, fun w' hS => exec_move _ rfl (.slice (some ⟨b, o, none⟩) n c) rfl⟩) hHeld ?_
      try simp only [Act.put, s1_, s2_, s3_]
      refine take_e 54 (i := 1) (v := .int .i64 ((i : Int))) rfl (by kernel_rfl) (Or.inl ⟨by kernel_rfl, fun w' hS => exec_move _ rfl (.int .i64 ((i : Int))) rfl⟩) hHeld ?_
      try simp only [Act.put, s1_, s2_, s3_]
      refine take_e 55 (i := 2) (v := .pointer (some ⟨b, o + i * 108, none⟩)) rfl (by kernel_rfl) (Or.inl ⟨by kernel_rfl, fun w' hS => exec_indexG _ _ _ rfl _ n c b o 108 i rfl rfl rfl (by omega) (by kernel_rfl) _ (by omega)⟩) hHeld ?_
      try simp only [Act.put, s1_, s2_, s3_]
      refine take_e 56 (i := 3) (v := .pointer (some ⟨b, o + i * 108 + 1, none⟩)) rfl (by kernel_rfl) (Or.inl ⟨by kernel_rfl, fun w' hS => exec_fieldG _ _ 1 1 rfl b (o + i * 108) rfl (by kernel_rfl) _ (by first | rfl | omega)⟩) hHeld ?_
      try simp only [Act.put, s1_, s2_, s3_]
      refine take_e 57 (i := 4) (v := .pointer (some ⟨b, o + i * 108 + 1 + 1, none⟩)) rfl (by kernel_rfl) (Or.inl ⟨by kernel_rfl, fun w' hS => exec_fieldG _ _ 1 1 rfl b (o + i * 108 + 1) rfl (by kernel_rfl) _ (by first | rfl | omega)⟩) hHeld ?_
      try simp only [Act.put, s1_, s2_, s3_]
      refine take_e 58 (i := 5) (v := .agg (u8s x.read.key).toArray) rfl (by kernel_rfl) (Or.inl ⟨by kernel_rfl, fun w' hS => exec_loadAll _ _ rfl b (o + i * 108 + 1 + 1) rfl _ _ (fun j u hu => (World.cell?_of_block (hS.block b hb7 (fun e => by injection e; omega))).trans (HKC.out j u hu)) Tryd.underlying23 rfl HKS.out⟩) hHeld ?_
      try simp only [Act.put, s1_, s2_, s3_]
      refine take_e 59 (i := 6) (v := .slice (some ⟨b, o, none⟩) n c) rfl (by kernel_rfl) (Or.inl ⟨by kernel_rfl, fun w' hS => exec_move _ rfl (.slice (some ⟨b, o, none⟩) n c) rfl⟩) hHeld ?_
      try simp only [Act.put, s1_, s2_, s3_]
      refine take_e 60 (i := 7) (v := .int .i64 ((i : Int))) rfl (by kernel_rfl) (Or.inl ⟨by kernel_rfl, fun w' hS => exec_move _ rfl (.int .i64 ((i : Int))) rfl⟩) hHeld ?_
      try simp only [Act.put, s1_, s2_, s3_]
      refine take_e 61 (i := 8) (v := .pointer (some ⟨b, o + i * 108, none⟩)) rfl (by kernel_rfl) (Or.inl ⟨by kernel_rfl, fun w' hS => exec_indexG _ _ _ rfl _ n c b o 108 i rfl rfl rfl (by omega) (by kernel_rfl) _ (by omega)⟩) hHeld ?_
      try simp only [Act.put, s1_, s2_, s3_]
      refine take_e 62 (i := 9) (v := .pointer (some ⟨b, o + i * 108 + 1, none⟩)) rfl (by kernel_rfl) (Or.inl ⟨by kernel_rfl, fun w' hS => exec_fieldG _ _ 1 1 rfl b (o + i * 108) rfl (by kernel_rfl) _ (by first | rfl | omega)⟩) hHeld ?_
      try simp only [Act.put, s1_, s2_, s3_]
      refine take_e 63 (i := 10) (v := .pointer (some ⟨b, o + i * 108 + 1 + 17, none⟩)) rfl (by kernel_rfl) (Or.inl ⟨by kernel_rfl, fun w' hS => exec_fieldG _ _ 2 17 rfl b (o + i * 108 + 1) rfl (by kernel_rfl) _ (by first | rfl | omega)⟩) hHeld ?_
      try simp only [Act.put, s1_, s2_, s3_]
      refine take_e 64 (i := 11) (v := .agg (u8s x.read.fp).toArray) rfl (by kernel_rfl) (Or.inl ⟨by kernel_rfl, fun w' hS => exec_loadAll _ _ rfl b (o + i * 108 + 1 + 17) rfl _ _ (fun j u hu => (World.cell?_of_block (hS.block b hb7 (fun e => by injection e; omega))).trans (HFC.out j u hu)) Tryd.underlying25 rfl HFS.out⟩) hHeld ?_
      try simp only [Act.put, s1_, s2_, s3_]
      refine wpAnyH_ready (rs := [12]) (by kernel_rfl) (by simp) (AllReadyH.cons rfl (fun K hK => ?_) AllReadyH.nil)
      rw [if_pos (by kernel_rfl)]
      try go_simp
      refine (Slot_ref x.read.key x.read.fp _ HXOK.out.rWf.keyL HXOK.out.rWf.keyB HXOK.out.rWf.fpL).mono ?_
      rintro e w65 ⟨rfl, hb65⟩
      replace H6 := hide (H6.out.below hb65 H6.out.lt)
      have HX := hide (World.grownBy.transG hHeld (Below.toGrown hb65 (some g6)))
      clear hb65
      refine hK.out _ _ HX.out (fun hHeld => ?_)
      clear HX hK K
      try simp only [Act.put, s1_, s2_, s3_]
      refine wpAnyH_ready (rs := [13]) (by kernel_rfl) (by simp) (AllReadyH.cons rfl (fun K hK => ?_) AllReadyH.nil)
      rw [if_pos (by kernel_rfl)]
      refine wp_store_blkD 28 _ _ rfl rfl g6 0 (capCells (slotF x.read.key x.read.fp) (.slice none 0 0)) rfl rfl _ _ H6.out.blk (by rw [cc_len _ H6.out.keyL H6.out.fpL, cc_len (c := slotF x.read.key x.read.fp) (.slice none 0 0) (keyF_len _ _) HXOK.out.rWf.fpL]; omega) (size_capL (keyF_len _ _) HXOK.out.rWf.fpL) (cap_ones rfl) ?_
      intro w66 hb66 hg66 hs66
      rw [lset_all _ _ (by rw [cc_len _ H6.out.keyL H6.out.fpL, cc_len (c := slotF x.read.key x.read.fp) (.slice none 0 0) (keyF_len _ _) HXOK.out.rWf.fpL])] at hb66
      clear H6
      have H6 := hide (show CapB _ g6 (slotF x.read.key x.read.fp) (.slice none 0 0) from ⟨hb66, keyF_len _ _, HXOK.out.rWf.fpL, rfl⟩)
      have HX := hide (World.grownBy.transG hHeld hg66)
      clear hb66 hg66 hs66
      refine hK.out _ _ HX.out (fun hHeld => ?_)
      clear HX hK K
      try simp only [Act.put, s1_, s2_, s3_]
      refine wpAnyH_done (by kernel_rfl) ?_ _
      have hHD := hHeld
      replace H5 := hide (H5.out.grown hHD (by intro e; injection e; omega))
      replace HOWN := hide (HOWN.out.past H6p.out.blk (by omega) (by kernel_rfl) (fun e => by have := HOLT.out _ e; omega) hHD hzz)
      replace HB := hide (HB.out.grown hHD hzz (by intro k hk; injection hk; omega))
      clear hHD hHeld HKC HFC
      have HCW := hide (show (slotF x.read.key x.read.fp).Wf from slotF_wf HXOK.out.rWf.fpL HXOK.out.rWf.fpB)
      have HVL := hide (fun (W : World) => show Bs W W.heap.size (.slice none 0 0) (slotF x.read.key x.read.fp).lit from Bs.nil_ _ _)
      have HVN := hide (show (slotF x.read.key x.read.fp).lit.length ≤ 1000000 by show ([] : List Int).length ≤ _; simp)
      have HRCE := hide (show rcapE x = slotF x.read.key x.read.fp by unfold rcapE; rw [if_pos (by rw [HQR.out, HHE.out]; rfl)])
      have HWRF := hide (slotF_write x.read.key x.read.fp)
      go_wp2_with (first
       | go_skip
       | go_skip
       | (refine wpList_cap_all _ rfl rfl rfl H6.out ?_))
      refine (ReadOnly_refR (slotF x.read.key x.read.fp) (.slice none 0 0) _ HCW.out (HVL.out _) HVN.out).mono ?_
      rintro e w9 ⟨l9, rfl, hl9, hb9⟩
      have HL9 := hide (hl9.more HB.out.size)
      replace H5 := hide (H5.out.below hb9 H5.out.lt)
      replace H6 := hide (H6.out.below hb9 H6.out.lt)
      replace HOWN := hide (HOWN.out.keptB hb9 HB.out.size)
      replace HB := hide (HB.out.trans (hb9.mono HB.out.size))
      clear hl9 hb9
      have HRW := hide (roF_wf HCW.out)
      go_wp2_with (first
       | go_skip
       | go_skip
       | (refine wpList_store_blk rfl 28 _ _ rfl g5 1 (capCells (roF (slotF x.read.key x.read.fp)) l9) rfl rfl _ _ H5.out (by rw [ent_lenL HLX.out.1 HLX.out.2, cc_len l9 HRW.out.keyL HRW.out.fpL]; omega) (size_capL HRW.out.keyL HRW.out.fpL) (cap_ones (bs_one_ HL9.out.reads)) ?_; intro wp hbp hgp hsp; rw [ent_setRead HLX.out.1 (roF (slotF x.read.key x.read.fp)) l9 HRW.out.keyL HRW.out.fpL] at hbp; replace H6 := hide (H6.out.grown hgp (by intro e; injection e; omega)); replace HL9 := hide (HL9.out.pastE H5.out (by kernel_rfl) hgp); replace HOWN := hide (HOWN.out.past H5.out (by omega) (by kernel_rfl) (fun e => Nat.lt_irrefl _ (HOLT.out _ e)) hgp HB.out.size); replace H5 := hide hbp; replace HB := hide (HB.out.grown hgp HB.out.size (by intro k hk; injection hk; omega)); clear hbp hgp hsp)
       | (refine wpList_cap_all _ rfl rfl rfl H6.out ?_))
      refine (write_ref (slotF x.read.key x.read.fp) (.slice none 0 0) _ (capV_of HCW.out.keyL HCW.out.fpL (HVL.out w9))).mono ?_
      rintro e w10 ⟨rfl, hb10⟩
      rw [HWRF.out]
      replace HL9 := hide (HL9.out.keptB hb10)
      replace H5 := hide (H5.out.below hb10 H5.out.lt)
      replace H6 := hide (H6.out.below hb10 H6.out.lt)
      replace HOWN := hide (HOWN.out.keptB hb10 HB.out.size)
      replace HB := hide (HB.out.trans (hb10.mono HB.out.size))
      clear hb10
      have HHC := hide (show w10.cell? ⟨b, o + i * 108 + 107, none⟩ = some (.bool true) from HRGw.out w10 HB.out 107 _ HXH.out)
      have HLR := hide (show LenE ({ (⟨(97 + (i : Int)) :: x.name.take 10, CapD.none_, CapD.none_, false⟩ : EntD) with read := roF (slotF x.read.key x.read.fp) } : EntD) ∧ LenW ({ (⟨(97 + (i : Int)) :: x.name.take 10, CapD.none_, CapD.none_, false⟩ : EntD) with read := roF (slotF x.read.key x.read.fp) } : EntD) from ⟨⟨HRW.out.keyL, HRW.out.fpL⟩, ⟨rfl, rfl⟩⟩)
      have HLW := hide (show LenE ({ ({ (⟨(97 + (i : Int)) :: x.name.take 10, CapD.none_, CapD.none_, false⟩ : EntD) with read := roF (slotF x.read.key x.read.fp) } : EntD) with write := (slotF x.read.key x.read.fp) } : EntD) ∧ LenW ({ ({ (⟨(97 + (i : Int)) :: x.name.take 10, CapD.none_, CapD.none_, false⟩ : EntD) with read := roF (slotF x.read.key x.read.fp) } : EntD) with write := (slotF x.read.key x.read.fp) } : EntD) from ⟨⟨HRW.out.keyL, HRW.out.fpL⟩, ⟨HCW.out.keyL, HCW.out.fpL⟩⟩)
      have HFE := hide (show ({ ({ ({ (⟨(97 + (i : Int)) :: x.name.take 10, CapD.none_, CapD.none_, false⟩ : EntD) with read := roF (slotF x.read.key x.read.fp) } : EntD) with write := (slotF x.read.key x.read.fp) } : EntD) with has := true } : EntD) = rightE i x by unfold rightE; rw [HRCE.out, HWRF.out, HHE.out]; rfl)
      have HSZE := hide (show (Tryd.prog.info? 45).map (·.size) = some (entC ({ ({ ({ (⟨(97 + (i : Int)) :: x.name.take 10, CapD.none_, CapD.none_, false⟩ : EntD) with read := roF (slotF x.read.key x.read.fp) } : EntD) with write := (slotF x.read.key x.read.fp) } : EntD) with has := true } : EntD) l9 (.slice none 0 0)).length by rw [HFE.out]; exact size_entL (rightE_wf hl6 HXOK.out.toWf).lens.1 (rightE_wf hl6 HXOK.out.toWf).lens.2)
      go_wp2_with (first
       | go_skip
       | go_skip
       | (refine wpList_val_ rfl (exec_load_one _ _ rfl b (o + i * 108 + 107) rfl _ Tryd.underlying4 rfl _ HHC.out) ?_)
       | (refine wpList_cap_all _ rfl rfl rfl H6.out ?_)
       | (refine wpList_store_blk rfl 28 _ _ rfl g5 54 (capCells (slotF x.read.key x.read.fp) (.slice none 0 0)) rfl rfl _ _ H5.out (by rw [ent_lenL HLR.out.1 HLR.out.2, cc_len (.slice none 0 0) HCW.out.keyL HCW.out.fpL]; omega) (size_capL HCW.out.keyL HCW.out.fpL) (cap_ones rfl) ?_; intro wp2 hbp hgp hsp; rw [ent_setWrite HLR.out.1 HLR.out.2 (slotF x.read.key x.read.fp) (.slice none 0 0) HCW.out.keyL HCW.out.fpL] at hbp; replace HL9 := hide (HL9.out.pastE H5.out (by kernel_rfl) hgp); replace HOWN := hide (HOWN.out.past H5.out (by omega) (by kernel_rfl) (fun e => Nat.lt_irrefl _ (HOLT.out _ e)) hgp HB.out.size); replace H5 := hide hbp; replace HB := hide (HB.out.grown hgp HB.out.size (by intro k hk; injection hk; omega)); clear hbp hgp hsp)
       | (refine wpList_st_put 4 _ _ rfl 107 rfl rfl H5.out (by rw [ent_lenL HLW.out.1 HLW.out.2]; omega) (.bool true) rfl rfl (by kernel_rfl) ?_; intro wp3 hbp hgp hsp; rw [ent_setHas HLW.out.1 HLW.out.2 true] at hbp; replace HL9 := hide (HL9.out.pastE H5.out (by kernel_rfl) hgp); replace HOWN := hide (HOWN.out.past H5.out (by omega) (by kernel_rfl) (fun e => Nat.lt_irrefl _ (HOLT.out _ e)) hgp HB.out.size); replace H5 := hide hbp; replace HB := hide (HB.out.grown hgp HB.out.size (by intro k hk; injection hk; omega)); clear hbp hgp hsp)
       | (refine wpList_st_all 45 _ rfl rfl rfl H5.out _ Tryd.underlying45 rfl HSZE.out ?_; rw [HFE.out]; have HYx := hide (show (EntL.mk (rightE i x) l9 (.slice none 0 0)).Ok _ 0 from ⟨rightE_wf hl6 HXOK.out.toWf, (show LitB _ 0 l9 (rightE i x).read.lit by rw [← HFE.out]; exact HL9.out.litB), (show LitB _ 0 (.slice none 0 0) (rightE i x).write.lit by rw [← HFE.out]; exact LitB.nil_ _ _)⟩); have hze := HB.out.size)
       | (refine wpList_lit_ent rfl _ rfl (EntL.mk (rightE i x) l9 (.slice none 0 0)) HYx.out.wf rfl ?_)
       | (at_builtin; refine wpList_append_ent rfl _ _ rfl w.heap.size 0 u3 (rightsN l i) rfl HOWN.out hze HOL.out (EntL.mk (rightE i x) l9 (.slice none 0 0)) HYx.out rfl ?_; intro vz wz hoz hpz hkz; rw [← HAT.out] at hoz; have HOWNb := hide hoz; replace HB := hide (HB.out.trans hpz); clear hoz hpz hkz))
      go_roundw
      case measure => simp [intOf]; omega
      case rel => exact ⟨i + 1, by go_num, by omega, HOWNb.out, HB.out⟩
    rcases qr with _ | _
    case false =>
     have hb6 : b < g6 := by omega
     have hb7 : b < w7.heap.size := Nat.lt_of_lt_of_le hbb HB.out.size
     have HKC := hide (fun (j : Nat) (u : Value) (hu : (u8s x.read.key)[j]? = some u) => show w7.cell? ⟨b, o + i * 108 + 1 + 1 + j, none⟩ = some u by
      have := HRGw.out w7 HB.out (1 + (1 + j)) u (ent_read HXOK.out _ u (cc_key HXOK.out.rWf.keyL j u hu))
      rwa [show o + i * 108 + 1 + 1 + j = o + i * 108 + (1 + (1 + j)) by omega])
     have HFC := hide (fun (j : Nat) (u : Value) (hu : (u8s x.read.fp)[j]? = some u) => show w7.cell? ⟨b, o + i * 108 + 1 + 17 + j, none⟩ = some u by
      have := HRGw.out w7 HB.out (1 + (17 + j)) u (ent_read HXOK.out _ u (cc_fp HXOK.out.rWf.keyL HXOK.out.rWf.fpL j u hu))
      rwa [show o + i * 108 + 1 + 17 + j = o + i * 108 + (1 + (17 + j)) by omega])
     have HKS := hide (show (Tryd.prog.info? 23).map (·.size) = some (u8s x.read.key).length by rw [u8s_len, HXOK.out.rWf.keyL]; exact size_key)
     have HFS := hide (show (Tryd.prog.info? 25).map (·.size) = some (u8s x.read.fp).length by rw [u8s_len, HXOK.out.rWf.fpL]; exact size_hash)
     go_upto_region 8 with (first
      | go_skip
      | (refine wpList_val_ rfl (exec_load_one _ _ rfl b (o + i * 108 + 107) rfl _ Tryd.underlying4 rfl _ HHC.out) ?_))
     try simp only [Act.put, s1_, s2_, s3_]
     have H6p := H6
     have hzz : w.heap.size ≤ w7.heap.size := HB.out.size
     refine wp_region_held_drew (S := fun w' => w7.grownBy w' (some g6)) (by kernel_rfl) (World.grownBy.drewG _ _) (fun hHeld => ?_)
     replace H6 := hide H6.out.drew
     refine take_e 53 (i := 0) (v := .slice (some ⟨b, o, none⟩) n c) rfl (by kernel_rfl) (Or.inl ⟨by kernel_rfl, fun w' hS => exec_move _ rfl (.slice (some ⟨b, o, none⟩) n c) rfl⟩) hHeld ?_
     try simp only [Act.put, s1_, s2_, s3_]
     refine take_e 54 (i := 1) (v := .int .i64 ((i : Int))) rfl (by kernel_rfl) (Or.inl ⟨by kernel_rfl, fun w' hS => exec_move _ rfl (.int .i64 ((i : Int))) rfl⟩) hHeld ?_
     try simp only [Act.put, s1_, s2_, s3_]
     refine take_e 55 (i := 2) (v := .pointer (some ⟨b, o + i * 108, none⟩)) rfl (by kernel_rfl) (Or.inl ⟨by kernel_rfl, fun w' hS => exec_indexG _ _ _ rfl _ n c b o 108 i rfl rfl rfl (by omega) (by kernel_rfl) _ (by omega)⟩) hHeld ?_
     try simp only [Act.put, s1_, s2_, s3_]
     refine take_e 56 (i := 3) (v := .pointer (some ⟨b, o + i * 108 + 1, none⟩)) rfl (by kernel_rfl) (Or.inl ⟨by kernel_rfl, fun w' hS => exec_fieldG _ _ 1 1 rfl b (o + i * 108) rfl (by kernel_rfl) _ (by first | rfl | omega)⟩) hHeld ?_
     try simp only [Act.put, s1_, s2_, s3_]
     refine take_e 57 (i := 4) (v := .pointer (some ⟨b, o + i * 108 + 1 + 1, none⟩)) rfl (by kernel_rfl) (Or.inl ⟨by kernel_rfl, fun w' hS => exec_fieldG _ _ 1 1 rfl b (o + i * 108 + 1) rfl (by kernel_rfl) _ (by first | rfl | omega)⟩) hHeld ?_
     try simp only [Act.put, s1_, s2_, s3_]
     refine take_e 58 (i := 5) (v := .agg (u8s x.read.key).toArray) rfl (by kernel_rfl) (Or.inl ⟨by kernel_rfl, fun w' hS => exec_loadAll _ _ rfl b (o + i * 108 + 1 + 1) rfl _ _ (fun j u hu => (World.cell?_of_block (hS.block b hb7 (fun e => by injection e; omega))).trans (HKC.out j u hu)) Tryd.underlying23 rfl HKS.out⟩) hHeld ?_
     try simp only [Act.put, s1_, s2_, s3_]
     refine take_e 59 (i := 6) (v := .slice (some ⟨b, o, none⟩) n c) rfl (by kernel_rfl) (Or.inl ⟨by kernel_rfl, fun w' hS => exec_move _ rfl (.slice (some ⟨b, o, none⟩) n c) rfl⟩) hHeld ?_
     try simp only [Act.put, s1_, s2_, s3_]
     refine take_e 60 (i := 7) (v := .int .i64 ((i : Int))) rfl (by kernel_rfl) (Or.inl ⟨by kernel_rfl, fun w' hS => exec_move _ rfl (.int .i64 ((i : Int))) rfl⟩) hHeld ?_
     try simp only [Act.put, s1_, s2_, s3_]
     refine take_e 61 (i := 8) (v := .pointer (some ⟨b, o + i * 108, none⟩)) rfl (by kernel_rfl) (Or.inl ⟨by kernel_rfl, fun w' hS => exec_indexG _ _ _ rfl _ n c b o 108 i rfl rfl rfl (by omega) (by kernel_rfl) _ (by omega)⟩) hHeld ?_
     try simp only [Act.put, s1_, s2_, s3_]
     refine take_e 62 (i := 9) (v := .pointer (some ⟨b, o + i * 108 + 1, none⟩)) rfl (by kernel_rfl) (Or.inl ⟨by kernel_rfl, fun w' hS => exec_fieldG _ _ 1 1 rfl b (o + i * 108) rfl (by kernel_rfl) _ (by first | rfl | omega)⟩) hHeld ?_
     try simp only [Act.put, s1_, s2_, s3_]
     refine take_e 63 (i := 10) (v := .pointer (some ⟨b, o + i * 108 + 1 + 17, none⟩)) rfl (by kernel_rfl) (Or.inl ⟨by kernel_rfl, fun w' hS => exec_fieldG _ _ 2 17 rfl b (o + i * 108 + 1) rfl (by kernel_rfl) _ (by first | rfl | omega)⟩) hHeld ?_
     try simp only [Act.put, s1_, s2_, s3_]
     refine take_e 64 (i := 11) (v := .agg (u8s x.read.fp).toArray) rfl (by kernel_rfl) (Or.inl ⟨by kernel_rfl, fun w' hS => exec_loadAll _ _ rfl b (o + i * 108 + 1 + 17) rfl _ _ (fun j u hu => (World.cell?_of_block (hS.block b hb7 (fun e => by injection e; omega))).trans (HFC.out j u hu)) Tryd.underlying25 rfl HFS.out⟩) hHeld ?_
     try simp only [Act.put, s1_, s2_, s3_]
     refine wpAnyH_ready (rs := [12]) (by kernel_rfl) (by simp) (AllReadyH.cons rfl (fun K hK => ?_) AllReadyH.nil)
     rw [if_pos (by kernel_rfl)]
     try go_simp
     refine (Slot_ref x.read.key x.read.fp _ HXOK.out.rWf.keyL HXOK.out.rWf.keyB HXOK.out.rWf.fpL).mono ?_
     rintro e w65 ⟨rfl, hb65⟩
     replace H6 := hide (H6.out.below hb65 H6.out.lt)
     have HX := hide (World.grownBy.transG hHeld (Below.toGrown hb65 (some g6)))
     clear hb65
     refine hK.out _ _ HX.out (fun hHeld => ?_)
     clear HX hK K
     try simp only [Act.put, s1_, s2_, s3_]
     refine wpAnyH_ready (rs := [13]) (by kernel_rfl) (by simp) (AllReadyH.cons rfl (fun K hK => ?_) AllReadyH.nil)
     rw [if_pos (by kernel_rfl)]
     refine wp_store_blkD 28 _ _ rfl rfl g6 0 (capCells (slotF x.read.key x.read.fp) (.slice none 0 0)) rfl rfl _ _ H6.out.blk (by rw [cc_len _ H6.out.keyL H6.out.fpL, cc_len (c := slotF x.read.key x.read.fp) (.slice none 0 0) (keyF_len _ _) HXOK.out.rWf.fpL]; omega) (size_capL (keyF_len _ _) HXOK.out.rWf.fpL) (cap_ones rfl) ?_
     intro w66 hb66 hg66 hs66
     rw [lset_all _ _ (by rw [cc_len _ H6.out.keyL H6.out.fpL, cc_len (c := slotF x.read.key x.read.fp) (.slice none 0 0) (keyF_len _ _) HXOK.out.rWf.fpL])] at hb66
     clear H6
     have H6 := hide (show CapB _ g6 (slotF x.read.key x.read.fp) (.slice none 0 0) from ⟨hb66, keyF_len _ _, HXOK.out.rWf.fpL, rfl⟩)
     have HX := hide (World.grownBy.transG hHeld hg66)
     clear hb66 hg66 hs66
     refine hK.out _ _ HX.out (fun hHeld => ?_)
     clear HX hK K
     try simp only [Act.put, s1_, s2_, s3_]
     refine wpAnyH_done (by kernel_rfl) ?_ _
     have hHD := hHeld
     replace H5 := hide (H5.out.grown hHD (by intro e; injection e; omega))
     replace HOWN := hide (HOWN.out.past H6p.out.blk (by omega) (by kernel_rfl) (fun e => by have := HOLT.out _ e; omega) hHD hzz)
     replace HB := hide (HB.out.grown hHD hzz (by intro k hk; injection hk; omega))
     clear hHD hHeld HKC HFC
     have HCW := hide (show (slotF x.read.key x.read.fp).Wf from slotF_wf HXOK.out.rWf.fpL HXOK.out.rWf.fpB)
     have HVL := hide (fun (W : World) => show Bs W W.heap.size (.slice none 0 0) (slotF x.read.key x.read.fp).lit from Bs.nil_ _ _)
     have HVN := hide (show (slotF x.read.key x.read.fp).lit.length ≤ 1000000 by show ([] : List Int).length ≤ _; simp)
     have HRCE := hide (show rcapE x = slotF x.read.key x.read.fp by unfold rcapE; rw [if_pos (by rw [HQR.out, HHE.out]; rfl)])
     have HWRF := hide (slotF_write x.read.key x.read.fp)
     go_wp2_with (first
      | go_skip
      | go_skip
      | (refine wpList_cap_all _ rfl rfl rfl H6.out ?_))
     refine (ReadOnly_refR (slotF x.read.key x.read.fp) (.slice none 0 0) _ HCW.out (HVL.out _) HVN.out).mono ?_
     rintro e w9 ⟨l9, rfl, hl9, hb9⟩
     have HL9 := hide (hl9.more HB.out.size)
     replace H5 := hide (H5.out.below hb9 H5.out.lt)
     replace H6 := hide (H6.out.below hb9 H6.out.lt)
     replace HOWN := hide (HOWN.out.keptB hb9 HB.out.size)
     replace HB := hide (HB.out.trans (hb9.mono HB.out.size))
     clear hl9 hb9
     have HRW := hide (roF_wf HCW.out)
     go_wp2_with (first
      | go_skip
      | go_skip
      | (refine wpList_store_blk rfl 28 _ _ rfl g5 1 (capCells (roF (slotF x.read.key x.read.fp)) l9) rfl rfl _ _ H5.out (by rw [ent_lenL HLX.out.1 HLX.out.2, cc_len l9 HRW.out.keyL HRW.out.fpL]; omega) (size_capL HRW.out.keyL HRW.out.fpL) (cap_ones (bs_one_ HL9.out.reads)) ?_; intro wp hbp hgp hsp; rw [ent_setRead HLX.out.1 (roF (slotF x.read.key x.read.fp)) l9 HRW.out.keyL HRW.out.fpL] at hbp; replace H6 := hide (H6.out.grown hgp (by intro e; injection e; omega)); replace HL9 := hide (HL9.out.pastE H5.out (by kernel_rfl) hgp); replace HOWN := hide (HOWN.out.past H5.out (by omega) (by kernel_rfl) (fun e => Nat.lt_irrefl _ (HOLT.out _ e)) hgp HB.out.size); replace H5 := hide hbp; replace HB := hide (HB.out.grown hgp HB.out.size (by intro k hk; injection hk; omega)); clear hbp hgp hsp)
      | (refine wpList_cap_all _ rfl rfl rfl H6.out ?_))
     refine (write_ref (slotF x.read.key x.read.fp) (.slice none 0 0) _ (capV_of HCW.out.keyL HCW.out.fpL (HVL.out w9))).mono ?_
     rintro e w10 ⟨rfl, hb10⟩
     rw [HWRF.out]
     replace HL9 := hide (HL9.out.keptB hb10)
     replace H5 := hide (H5.out.below hb10 H5.out.lt)
     replace H6 := hide (H6.out.below hb10 H6.out.lt)
     replace HOWN := hide (HOWN.out.keptB hb10 HB.out.size)
     replace HB := hide (HB.out.trans (hb10.mono HB.out.size))
     clear hb10
     have HHC := hide (show w10.cell? ⟨b, o + i * 108 + 107, none⟩ = some (.bool false) from HRGw.out w10 HB.out 107 _ HXH.out)
     have HFE := hide (show ({ (⟨(97 + (i : Int)) :: x.name.take 10, CapD.none_, CapD.none_, false⟩ : EntD) with read := roF (slotF x.read.key x.read.fp) } : EntD) = rightE i x by unfold rightE; rw [HRCE.out, HWRF.out, HHE.out]; rfl)
     have HSZE := hide (show (Tryd.prog.info? 45).map (·.size) = some (entC ({ (⟨(97 + (i : Int)) :: x.name.take 10, CapD.none_, CapD.none_, false⟩ : EntD) with read := roF (slotF x.read.key x.read.fp) } : EntD) l9 (.slice none 0 0)).length by rw [HFE.out]; exact size_entL (rightE_wf hl6 HXOK.out.toWf).lens.1 (rightE_wf hl6 HXOK.out.toWf).lens.2)
     go_wp2_with (first
      | go_skip
      | go_skip
      | (refine wpList_val_ rfl (exec_load_one _ _ rfl b (o + i * 108 + 107) rfl _ Tryd.underlying4 rfl _ HHC.out) ?_)
      | (refine wpList_st_all 45 _ rfl rfl rfl H5.out _ Tryd.underlying45 rfl HSZE.out ?_; rw [HFE.out]; have HYx := hide (show (EntL.mk (rightE i x) l9 (.slice none 0 0)).Ok _ 0 from ⟨rightE_wf hl6 HXOK.out.toWf, (show LitB _ 0 l9 (rightE i x).read.lit by rw [← HFE.out]; exact HL9.out.litB), (show LitB _ 0 (.slice none 0 0) (rightE i x).write.lit by rw [← HFE.out]; exact LitB.nil_ _ _)⟩); have hze := HB.out.size)
      | (refine wpList_lit_ent rfl _ rfl (EntL.mk (rightE i x) l9 (.slice none 0 0)) HYx.out.wf rfl ?_)
      | (at_builtin; refine wpList_append_ent rfl _ _ rfl w.heap.size 0 u3 (rightsN l i) rfl HOWN.out hze HOL.out (EntL.mk (rightE i x) l9 (.slice none 0 0)) HYx.out rfl ?_; intro vz wz hoz hpz hkz; rw [← HAT.out] at hoz; have HOWNb := hide hoz; replace HB := hide (HB.out.trans hpz); clear hoz hpz hkz))
     go_roundw
     case measure => simp [intOf]; omega
     case rel => exact ⟨i + 1, by go_num, by omega, HOWNb.out, HB.out⟩
    obtain ⟨qw, HWRF⟩ : ∃ q, Hid (writeF (rightF x.read) = q) := ⟨_, hide rfl⟩
    rcases qw with _ | _
    case false =>
     have HVL := hide (HL6.out.reads)
     have HCW := hide (show (rightF x.read).Wf from right_wf HXOK.out.rWf)
     have HVN := hide (show (rightF x.read).lit.length ≤ 1000000 by have := valid_litL (right_valid x.read); omega)
     have HRCE := hide (show rcapE x = rightF x.read by unfold rcapE; rw [if_neg (by rw [HQR.out, HHE.out]; simp)])
     go_wp2_with (first
      | go_skip
      | go_skip
      | (refine wpList_cap_all _ rfl rfl rfl H6.out ?_)
      | (refine wpList_val_ rfl (exec_load_one _ _ rfl b (o + i * 108 + 107) rfl _ Tryd.underlying4 rfl _ HHC.out) ?_))
     refine (ReadOnly_refR (rightF x.read) l6 _ HCW.out HVL.out HVN.out).mono ?_
     rintro e w9 ⟨l9, rfl, hl9, hb9⟩
     have HL9 := hide (hl9.more HB.out.size)
     replace H5 := hide (H5.out.below hb9 H5.out.lt)
     replace H6 := hide (H6.out.below hb9 H6.out.lt)
     replace HOWN := hide (HOWN.out.keptB hb9 HB.out.size)
     replace HB := hide (HB.out.trans (hb9.mono HB.out.size))
     clear hl9 hb9
     have HRW := hide (roF_wf HCW.out)
     go_wp2_with (first
      | go_skip
      | go_skip
      | (refine wpList_store_blk rfl 28 _ _ rfl g5 1 (capCells (roF (rightF x.read)) l9) rfl rfl _ _ H5.out (by rw [ent_lenL HLX.out.1 HLX.out.2, cc_len l9 HRW.out.keyL HRW.out.fpL]; omega) (size_capL HRW.out.keyL HRW.out.fpL) (cap_ones (bs_one_ HL9.out.reads)) ?_; intro wp hbp hgp hsp; rw [ent_setRead HLX.out.1 (roF (rightF x.read)) l9 HRW.out.keyL HRW.out.fpL] at hbp; replace H6 := hide (H6.out.grown hgp (by intro e; injection e; omega)); replace HL9 := hide (HL9.out.pastE H5.out (by kernel_rfl) hgp); replace HOWN := hide (HOWN.out.past H5.out (by omega) (by kernel_rfl) (fun e => Nat.lt_irrefl _ (HOLT.out _ e)) hgp HB.out.size); replace H5 := hide hbp; replace HB := hide (HB.out.grown hgp HB.out.size (by intro k hk; injection hk; omega)); clear hbp hgp hsp)
      | (refine wpList_cap_all _ rfl rfl rfl H6.out ?_))
     refine (write_ref (rightF x.read) l6 _ (capV_of HCW.out.keyL HCW.out.fpL HVL.out)).mono ?_
     rintro e w10 ⟨rfl, hb10⟩
     rw [HWRF.out]
     replace HL9 := hide (HL9.out.keptB hb10)
     replace H5 := hide (H5.out.below hb10 H5.out.lt)
     replace H6 := hide (H6.out.below hb10 H6.out.lt)
     replace HOWN := hide (HOWN.out.keptB hb10 HB.out.size)
     replace HB := hide (HB.out.trans (hb10.mono HB.out.size))
     clear hb10
     have HFE := hide (show ({ (⟨(97 + (i : Int)) :: x.name.take 10, CapD.none_, CapD.none_, false⟩ : EntD) with read := roF (rightF x.read) } : EntD) = rightE i x by unfold rightE; rw [HRCE.out, HWRF.out, HHE.out]; rfl)
     have HSZE := hide (show (Tryd.prog.info? 45).map (·.size) = some (entC ({ (⟨(97 + (i : Int)) :: x.name.take 10, CapD.none_, CapD.none_, false⟩ : EntD) with read := roF (rightF x.read) } : EntD) l9 (.slice none 0 0)).length by rw [HFE.out]; exact size_entL (rightE_wf hl6 HXOK.out.toWf).lens.1 (rightE_wf hl6 HXOK.out.toWf).lens.2)
     go_wp2_with (first
      | go_skip
      | go_skip
      | (refine wpList_st_all 45 _ rfl rfl rfl H5.out _ Tryd.underlying45 rfl HSZE.out ?_; rw [HFE.out]; have HYx := hide (show (EntL.mk (rightE i x) l9 (.slice none 0 0)).Ok _ 0 from ⟨rightE_wf hl6 HXOK.out.toWf, (show LitB _ 0 l9 (rightE i x).read.lit by rw [← HFE.out]; exact HL9.out.litB), (show LitB _ 0 (.slice none 0 0) (rightE i x).write.lit by rw [← HFE.out]; exact LitB.nil_ _ _)⟩); have hze := HB.out.size)
      | (refine wpList_lit_ent rfl _ rfl (EntL.mk (rightE i x) l9 (.slice none 0 0)) HYx.out.wf rfl ?_)
      | (at_builtin; refine wpList_append_ent rfl _ _ rfl w.heap.size 0 u3 (rightsN l i) rfl HOWN.out hze HOL.out (EntL.mk (rightE i x) l9 (.slice none 0 0)) HYx.out rfl ?_; intro vz wz hoz hpz hkz; rw [← HAT.out] at hoz; have HOWNb := hide hoz; replace HB := hide (HB.out.trans hpz); clear hoz hpz hkz))
     go_roundw
     case measure => simp [intOf]; omega
     case rel => exact ⟨i + 1, by go_num, by omega, HOWNb.out, HB.out⟩
    case true =>
     have HVL := hide (HL6.out.reads)
     have HCW := hide (show (rightF x.read).Wf from right_wf HXOK.out.rWf)
     have HVN := hide (show (rightF x.read).lit.length ≤ 1000000 by have := valid_litL (right_valid x.read); omega)
     have HRCE := hide (show rcapE x = rightF x.read by unfold rcapE; rw [if_neg (by rw [HQR.out, HHE.out]; simp)])
     go_wp2_with (first
      | go_skip
      | go_skip
      | (refine wpList_cap_all _ rfl rfl rfl H6.out ?_)
      | (refine wpList_val_ rfl (exec_load_one _ _ rfl b (o + i * 108 + 107) rfl _ Tryd.underlying4 rfl _ HHC.out) ?_))
     refine (ReadOnly_refR (rightF x.read) l6 _ HCW.out HVL.out HVN.out).mono ?_
     rintro e w9 ⟨l9, rfl, hl9, hb9⟩
     have HL9 := hide (hl9.more HB.out.size)
     replace H5 := hide (H5.out.below hb9 H5.out.lt)
     replace H6 := hide (H6.out.below hb9 H6.out.lt)
     replace HOWN := hide (HOWN.out.keptB hb9 HB.out.size)
     replace HB := hide (HB.out.trans (hb9.mono HB.out.size))
     clear hl9 hb9
     have HRW := hide (roF_wf HCW.out)
     go_wp2_with (first
      | go_skip
      | go_skip
      | (refine wpList_store_blk rfl 28 _ _ rfl g5 1 (capCells (roF (rightF x.read)) l9) rfl rfl _ _ H5.out (by rw [ent_lenL HLX.out.1 HLX.out.2, cc_len l9 HRW.out.keyL HRW.out.fpL]; omega) (size_capL HRW.out.keyL HRW.out.fpL) (cap_ones (bs_one_ HL9.out.reads)) ?_; intro wp hbp hgp hsp; rw [ent_setRead HLX.out.1 (roF (rightF x.read)) l9 HRW.out.keyL HRW.out.fpL] at hbp; replace H6 := hide (H6.out.grown hgp (by intro e; injection e; omega)); replace HL9 := hide (HL9.out.pastE H5.out (by kernel_rfl) hgp); replace HOWN := hide (HOWN.out.past H5.out (by omega) (by kernel_rfl) (fun e => Nat.lt_irrefl _ (HOLT.out _ e)) hgp HB.out.size); replace H5 := hide hbp; replace HB := hide (HB.out.grown hgp HB.out.size (by intro k hk; injection hk; omega)); clear hbp hgp hsp)
      | (refine wpList_cap_all _ rfl rfl rfl H6.out ?_))
     refine (write_ref (rightF x.read) l6 _ (capV_of HCW.out.keyL HCW.out.fpL HVL.out)).mono ?_
     rintro e w10 ⟨rfl, hb10⟩
     rw [HWRF.out]
     replace HL9 := hide (HL9.out.keptB hb10)
     replace H5 := hide (H5.out.below hb10 H5.out.lt)
     replace H6 := hide (H6.out.below hb10 H6.out.lt)
     replace HOWN := hide (HOWN.out.keptB hb10 HB.out.size)
     replace HB := hide (HB.out.trans (hb10.mono HB.out.size))
     clear hb10
     have HHC := hide (show w10.cell? ⟨b, o + i * 108 + 107, none⟩ = some (.bool false) from HRGw.out w10 HB.out 107 _ HXH.out)
     have HFE := hide (show ({ (⟨(97 + (i : Int)) :: x.name.take 10, CapD.none_, CapD.none_, false⟩ : EntD) with read := roF (rightF x.read) } : EntD) = rightE i x by unfold rightE; rw [HRCE.out, HWRF.out, HHE.out]; rfl)
     have HSZE := hide (show (Tryd.prog.info? 45).map (·.size) = some (entC ({ (⟨(97 + (i : Int)) :: x.name.take 10, CapD.none_, CapD.none_, false⟩ : EntD) with read := roF (rightF x.read) } : EntD) l9 (.slice none 0 0)).length by rw [HFE.out]; exact size_entL (rightE_wf hl6 HXOK.out.toWf).lens.1 (rightE_wf hl6 HXOK.out.toWf).lens.2)
     go_wp2_with (first
      | go_skip
      | go_skip
      | (refine wpList_val_ rfl (exec_load_one _ _ rfl b (o + i * 108 + 107) rfl _ Tryd.underlying4 rfl _ HHC.out) ?_)
      | (refine wpList_st_all 45 _ rfl rfl rfl H5.out _ Tryd.underlying45 rfl HSZE.out ?_; rw [HFE.out]; have HYx := hide (show (EntL.mk (rightE i x) l9 (.slice none 0 0)).Ok _ 0 from ⟨rightE_wf hl6 HXOK.out.toWf, (show LitB _ 0 l9 (rightE i x).read.lit by rw [← HFE.out]; exact HL9.out.litB), (show LitB _ 0 (.slice none 0 0) (rightE i x).write.lit by rw [← HFE.out]; exact LitB.nil_ _ _)⟩); have hze := HB.out.size)
      | (refine wpList_lit_ent rfl _ rfl (EntL.mk (rightE i x) l9 (.slice none 0 0)) HYx.out.wf rfl ?_)
      | (at_builtin; refine wpList_append_ent rfl _ _ rfl w.heap.size 0 u3 (rightsN l i) rfl HOWN.out hze HOL.out (EntL.mk (rightE i x) l9 (.slice none 0 0)) HYx.out rfl ?_; intro vz wz hoz hpz hkz; rw [← HAT.out] at hoz; have HOWNb := hide hoz; replace HB := hide (HB.out.trans hpz); clear hoz hpz hkz))
     go_roundw
     case measure => simp [intOf]; omega
     case rel => exact ⟨i + 1, by go_num, by omega, HOWNb.out, HB.out⟩
  · have HF := hide (show rightsN l i = rightsL l by
     unfold rightsL
     congr 1
     rw [HN.out]
     omega)
    rw [HF.out] at HOWN
    by_cases hl : i < n
    · have hlt' : (i : Int) < (n : Int) := by omega
      have hl6 : ¬ (i : Int) < 6 := by omega
      clear hlt
      go_wp2_with go_skip
      go_ret
      exact ⟨_, rfl, HOWN.out, HB.out⟩
    · have hlt' : ¬ (i : Int) < (n : Int) := by omega
      clear hlt
      go_wp2_with go_skip
      go_ret
      exact ⟨_, rfl, HOWN.out, HB.out⟩
end Go.Proofs.YthdjgebbjogmiaaDoor
