/- aumbrylaw23.cut: entries that are few and small enough to be played. No condition. -/
import Derived.Test.YthdjgebbjogmiaaDoorJoin21
import Derived.Test.YthdjgebbjogmiaaDoorJoin2
set_option linter.unusedVariables false
set_option linter.unusedSimpArgs false
namespace Go.Proofs.YthdjgebbjogmiaaDoor
open Go Go.RowKit
set_option linter.unusedVariables false
set_option linter.unusedSimpArgs false
set_option maxRecDepth 100000
set_option maxHeartbeats 16000000
theorem entcut_any (v : Value) (l : List EntD) (w : World) (hv : EntsB w w.heap.size v l) :
 Calls Tryd.prog 12 #[v] w fun r w' => ∃ v', r = .returned v' ∧ OwnEnts w' w.heap.size w.heap.size v' (cutEnts l) ∧ Below w.heap.size w w' := by
 obtain ⟨A, c, rfl, h1, h2, h3⟩ := hv
 unfold maxLen at h2
 have HA := hide h3
 obtain ⟨n, HN⟩ : ∃ k, Hid (l.length = k) := ⟨_, hide rfl⟩
 rw [HN.out] at h1 ⊢
 clear h3
 have HBe := hide (Below.refl w.heap.size w)
 go_enter Tryd.func12, Tryd.ntmps12
 go_wp2_with fail
 go_loopw [3, 4] (fun v3 v4 wr => ∃ (i : Nat), v4 = .int .i64 (i : Int) ∧ (i ≤ n ∧ i ≤ 18) ∧ OwnEnts wr w.heap.size w.heap.size v3 ((l.take i).map cutE) ∧ Below w.heap.size w wr) (fun _ v4 _ => n - (intOf v4).toNat)
 case atStart => exact ⟨0, by go_num, by omega, OwnEnts.nil_ _ (Nat.le_refl _), HBe.out⟩
 case round =>
  obtain ⟨i, rfl, hin, how, hb⟩ := hrel
  have HOWN := hide how
  have HB := hide hb
  have hzr : w.heap.size ≤ wr.heap.size := hb.size
  have HOL := hide (show ((l.take i).map cutE).length ≤ 1000000 by rw [List.length_map]; have := List.length_take_le i l; omega)
  clear how hb HBe
  by_cases hlt : i < n ∧ i < 18
  · have hlt' : (i : Int) < (n : Int) := by omega
    have hl18 : (i : Int) < 18 := by omega
    obtain ⟨b, o, rfl, hbb, hca⟩ := HA.out (by rw [HN.out]; omega)
    obtain ⟨la, lb, hok, hrg⟩ := hca i (by rw [HN.out]; exact hlt.1)
    have HAT := hide (cutEnts_at l i (by rw [HN.out]; exact hlt.1))
    obtain ⟨x, HX⟩ : ∃ x, Hid (l[i]'(by rw [HN.out]; exact hlt.1) = x) := ⟨_, hide rfl⟩
    rw [HX.out] at hok hrg HAT
    have HXOK := hide hok
    have HSZ := hide (show (Tryd.prog.info? 45).map (·.size) = some (entC x la lb).length by rw [ent_len hok]; exact size_ent)
    have HRG := hide (fun (j : Nat) (u : Value) (hu : (entC x la lb)[j]? = some u) => show _ = some u from (HB.out.cell (p := ⟨b, o + i * 108 + j, none⟩) hbb).trans (hrg j u hu))
    have HLR := hide (fun (W : World) (hW : Below w.heap.size w W) => show Bs W w.heap.size la x.read.lit from hok.r1.below hW (Nat.le_refl _))
    have HLW := hide (fun (W : World) (hW : Below w.heap.size w W) => show Bs W w.heap.size lb x.write.lit from hok.w1.below hW (Nat.le_refl _))
    have HXB := hide hok.nameB
    have HONES := hide (ent_ones hok)
    have HX0 := hide (show (entC x la lb)[0]? = some (.string (strOfNums x.name)) from ent_name)
    clear hok hrg hca HX hlt
    obtain ⟨g5, HG5⟩ : ∃ k, Hid (wr.heap.size = k) := ⟨_, hide rfl⟩
    have hg5 : w.heap.size ≤ g5 ∧ g5 ≤ wr.heap.size := by have := HG5.out; omega
    have HOLT := hide (fun (k : Nat) (hk : u3.ownBlock = some k) => show k < g5 by have := HOWN.out.lt k hk; have := HG5.out; omega)
    by_cases h70 : 70 < x.name.length
    · have hq : (70 : Int) < (x.name.length : Int) := by omega
      have HN70 := hide (show 70 ≤ x.name.length by omega)
      clear h70
      have HL1 := hide (show LenE ({ x with name := x.name.take 70 } : EntD) from ⟨HXOK.out.rWf.keyL, HXOK.out.rWf.fpL⟩)
      have HL2 := hide (show LenW ({ x with name := x.name.take 70 } : EntD) from ⟨HXOK.out.wWf.keyL, HXOK.out.wWf.fpL⟩)
      go_upto_region 8 with (first
       | go_skip
       | (refine wpList_val_ rfl (exec_loadAll 45 _ rfl b (o + i * 108) rfl _ (entC x la lb) HRG.out Tryd.underlying45 rfl HSZ.out) ?_)
       | (refine wpList_alloc_blk rfl 45 rfl _ zero_ent ?_; intro w5 hb5 hw5 hs5; rw [HG5.out] at hb5; try rw [HG5.out]; have H5 := hide hb5; replace HOWN := hide (HOWN.out.keptB hw5 hzr); replace HB := hide (HB.out.trans (hw5.mono hzr)); have hz5 : w.heap.size ≤ w5.heap.size := Nat.le_trans hzr hw5.size; clear hb5 hw5)
       | (refine wpList_st_putAll _ _ _ rfl rfl rfl H5.out (entC x la lb) rfl (by rw [ent_len HXOK.out, ent_len (w := w) (B := 0) ⟨EntD.none_wf, Bs.nil_ _ _, Bs.nil_ _ _⟩]) HSZ.out HONES.out ?_; intro wq hb6 hg6 hs6; replace HOWN := hide (HOWN.out.past H5.out (by omega) (by kernel_rfl) (fun e => Nat.lt_irrefl _ (HOLT.out _ e)) hg6 hz5); replace H5 := hide hb6; replace HB := hide (HB.out.grown hg6 hz5 (by intro k hk; injection hk; omega)); have hzq : w.heap.size ≤ wq.heap.size := HB.out.size; clear hb6 hg6)
       | (refine wpList_st_get 9 _ rfl 0 rfl rfl H5.out _ Tryd.underlying9 rfl _ HX0.out ?_)
       | (refine wpList_val_ rfl (exec_len_strM _ rfl x.name rfl) ?_)
       | (refine wpList_val_ rfl (exec_slice_name _ _ rfl x.name rfl 70 rfl HN70.out) ?_)
       | (refine wpList_st_put 9 _ _ rfl 0 rfl rfl H5.out (by rw [ent_len HXOK.out]; omega) (.string (strOfNums (x.name.take 70))) rfl rfl (by kernel_rfl) ?_; intro wn hb7 hg7 hs7; replace HOWN := hide (HOWN.out.past H5.out (by omega) (by kernel_rfl) (fun e => Nat.lt_irrefl _ (HOLT.out _ e)) hg7 hzq); replace H5 := hide (show Blk wn g5 45 (entC ({ x with name := x.name.take 70 } : EntD) la lb) from hb7); replace HB := hide (HB.out.grown hg7 hzq (by intro k hk; injection hk; omega)); clear hb7 hg7))
      try simp only [Act.put, s1_, s2_, s3_]
      have H5p := H5
      have hzz : w.heap.size ≤ wn.heap.size := HB.out.size
      go_cut [] from 28 to 39 (fun wx => ∃ v31 v35, Blk wx g5 45 (entC ({ x with name := x.name.take 70 } : EntD) v31 v35) ∧ Bs wx w.heap.size v31 (x.read.lit.take 70) ∧ Bs wx w.heap.size v35 (x.write.lit.take 70) ∧ wn.grownBy wx (some g5))
      case first =>
       refine wp_region_held_drew (S := fun w' => wn.grownBy w' (some g5)) (by kernel_rfl) (World.grownBy.drewG _ _) (fun hHeld => ?_)
       replace H5 := hide H5.out.drew
       refine take_e 28 (i := 0) (v := .pointer (some ⟨g5, 1, none⟩)) rfl (by kernel_rfl) (Or.inl ⟨by kernel_rfl, fun w' hS => exec_fieldG _ _ 1 1 rfl g5 0 rfl (by kernel_rfl) _ (by first | rfl | omega)⟩) hHeld ?_
       try simp only [Act.put, s1_, s2_, s3_]
       refine take_e 29 (i := 1) (v := .pointer (some ⟨g5, 1 + 52, none⟩)) rfl (by kernel_rfl) (Or.inl ⟨by kernel_rfl, fun w' hS => exec_fieldG _ _ 6 52 rfl g5 1 rfl (by kernel_rfl) _ (by first | rfl | omega)⟩) hHeld ?_
       try simp only [Act.put, s1_, s2_, s3_]
       refine take_e 32 (i := 4) (v := .pointer (some ⟨g5, 54, none⟩)) rfl (by kernel_rfl) (Or.inl ⟨by kernel_rfl, fun w' hS => exec_fieldG _ _ 2 54 rfl g5 0 rfl (by kernel_rfl) _ (by first | rfl | omega)⟩) hHeld ?_
       try simp only [Act.put, s1_, s2_, s3_]
       refine take_e 33 (i := 5) (v := .pointer (some ⟨g5, 54 + 52, none⟩)) rfl (by kernel_rfl) (Or.inl ⟨by kernel_rfl, fun w' hS => exec_fieldG _ _ 6 52 rfl g5 54 rfl (by kernel_rfl) _ (by first | rfl | omega)⟩) hHeld ?_
       try simp only [Act.put, s1_, s2_, s3_]
       refine wpAnyH_ready (rs := [2, 6]) (by kernel_rfl) (by simp) (AllReadyH.cons rfl (fun K hK => ?q1_2) (AllReadyH.cons rfl (fun K hK => ?q2_6) AllReadyH.nil))
       case q1_2 =>
        rw [if_pos (by kernel_rfl)]
        refine wp_valueD 30 rfl la (exec_load_one _ _ rfl g5 53 rfl _ Tryd.underlying26 rfl _ ((H5.out.cell _).trans (ent_litR HL1.out HL2.out))) ?_
        refine hK.out _ _ hHeld (fun hHeld => ?_)
        clear hK K
        try simp only [Act.put, s1_, s2_, s3_]
        refine wpAnyH_ready (rs := [3, 6]) (by kernel_rfl) (by simp) (AllReadyH.cons rfl (fun K hK => ?q3_3) (AllReadyH.cons rfl (fun K hK => ?q4_6) AllReadyH.nil))
        case q3_3 =>
         rw [if_pos (by kernel_rfl)]
         try go_simp
         refine (cut_bytes la x.read.lit 70 _ w.heap.size (HLR.out _ (HB.out.grown hHeld hzz (by intro k hk; injection hk; omega))) (by omega) (by omega)).mono ?_
         rintro e w31 ⟨v31, rfl, hv31, rfl⟩
         have HV31 := hide (show Bs _ w.heap.size v31 (x.read.lit.take 70) from hv31)
         clear hv31
         refine hK.out _ _ hHeld (fun hHeld => ?_)
         clear hK K
         try simp only [Act.put, s1_, s2_, s3_]
         refine wpAnyH_ready (rs := [6]) (by kernel_rfl) (by simp) (AllReadyH.cons rfl (fun K hK => ?_) AllReadyH.nil)
         rw [if_pos (by kernel_rfl)]
         refine wp_valueD 34 rfl lb (exec_load_one _ _ rfl g5 106 rfl _ Tryd.underlying26 rfl _ ((H5.out.cell _).trans (ent_litW HL1.out HL2.out))) ?_
         refine hK.out _ _ hHeld (fun hHeld => ?_)
         clear hK K
         try simp only [Act.put, s1_, s2_, s3_]
         refine take_e 36 (i := 8) (v := .pointer (some ⟨g5, 1, none⟩)) rfl (by kernel_rfl) (Or.inl ⟨by kernel_rfl, fun w' hS => exec_fieldG _ _ 1 1 rfl g5 0 rfl (by kernel_rfl) _ (by first | rfl | omega)⟩) hHeld ?_
         try simp only [Act.put, s1_, s2_, s3_]
         refine take_e 37 (i := 9) (v := .pointer (some ⟨g5, 1 + 52, none⟩)) rfl (by kernel_rfl) (Or.inl ⟨by kernel_rfl, fun w' hS => exec_fieldG _ _ 6 52 rfl g5 1 rfl (by kernel_rfl) _ (by first | rfl | omega)⟩) hHeld ?_
         try simp only [Act.put, s1_, s2_, s3_]
         refine wpAnyH_ready (rs := [7]) (by kernel_rfl) (by simp) (AllReadyH.cons rfl (fun K hK => ?_) AllReadyH.nil)
         rw [if_pos (by kernel_rfl)]
         try go_simp
         refine (cut_bytes lb x.write.lit 70 _ w.heap.size (HLW.out _ (HB.out.grown hHeld hzz (by intro k hk; injection hk; omega))) (by omega) (by omega)).mono ?_
         rintro e w35 ⟨v35, rfl, hv35, rfl⟩
         have HV35 := hide (show Bs _ w.heap.size v35 (x.write.lit.take 70) from hv35)
         clear hv35
         refine hK.out _ _ hHeld (fun hHeld => ?_)
         clear hK K
         try simp only [Act.put, s1_, s2_, s3_]
         refine wpAnyH_ready (rs := [10]) (by kernel_rfl) (by simp) (AllReadyH.cons rfl (fun K hK => ?_) AllReadyH.nil)
         rw [if_pos (by kernel_rfl)]
         refine wp_ent_putRD _ _ rfl rfl rfl H5.out HL1.out HL2.out v31 rfl (bs_one_ HV31.out) ?_
         intro ws10 hs10 hg10
         have hbl10 := (Below.refl w.heap.size _).grown hg10 (Nat.le_trans hzz hHeld.size) (by intro k hk; injection hk; omega)
         replace HV31 := hide (HV31.out.below hbl10 (Nat.le_refl _))
         try replace HV35 := hide (HV35.out.below hbl10 (Nat.le_refl _))
         replace H5 := hide hs10
         have HX := hide (World.grownBy.transG hHeld hg10)
         clear hs10 hg10 hbl10
         refine hK.out _ _ HX.out (fun hHeld => ?_)
         clear HX hK K
         try simp only [Act.put, s1_, s2_, s3_]
         refine take_e 38 (i := 11) (v := .pointer (some ⟨g5, 54, none⟩)) rfl (by kernel_rfl) (Or.inl ⟨by kernel_rfl, fun w' hS => exec_fieldG _ _ 2 54 rfl g5 0 rfl (by kernel_rfl) _ (by first | rfl | omega)⟩) hHeld ?_
         try simp only [Act.put, s1_, s2_, s3_]
         refine take_e 39 (i := 12) (v := .pointer (some ⟨g5, 54 + 52, none⟩)) rfl (by kernel_rfl) (Or.inl ⟨by kernel_rfl, fun w' hS => exec_fieldG _ _ 6 52 rfl g5 54 rfl (by kernel_rfl) _ (by first | rfl | omega)⟩) hHeld ?_
         try simp only [Act.put, s1_, s2_, s3_]
         refine wpAnyH_ready (rs := [13]) (by kernel_rfl) (by simp) (AllReadyH.cons rfl (fun K hK => ?_) AllReadyH.nil)
         rw [if_pos (by kernel_rfl)]
         refine wp_ent_putWD _ _ rfl rfl rfl H5.out HL1.out HL2.out v35 rfl (bs_one_ HV35.out) ?_
         intro ws13 hs13 hg13
         have hbl13 := (Below.refl w.heap.size _).grown hg13 (Nat.le_trans hzz hHeld.size) (by intro k hk; injection hk; omega)
         replace HV35 := hide (HV35.out.below hbl13 (Nat.le_refl _))
         try replace HV31 := hide (HV31.out.below hbl13 (Nat.le_refl _))
         replace H5 := hide hs13
         have HX := hide (World.grownBy.transG hHeld hg13)
         clear hs13 hg13 hbl13
         refine hK.out _ _ HX.out (fun hHeld => ?_)
         clear HX hK K
         try simp only [Act.put, s1_, s2_, s3_]
         refine wpAnyH_done (by kernel_rfl) ?_ _
         go_wp2_with fail
         go_meet
         exact ⟨v31, v35, H5.out, HV31.out, HV35.out, hHeld⟩
        case q4_6 =>
         rw [if_pos (by kernel_rfl)]
         refine wp_valueD 34 rfl lb (exec_load_one _ _ rfl g5 106 rfl _ Tryd.underlying26 rfl _ ((H5.out.cell _).trans (ent_litW HL1.out HL2.out))) ?_
         refine hK.out _ _ hHeld (fun hHeld => ?_)
         clear hK K
         try simp only [Act.put, s1_, s2_, s3_]
         refine wpAnyH_ready (rs := [3]) (by kernel_rfl) (by simp) (AllReadyH.cons rfl (fun K hK => ?_) AllReadyH.nil)
         rw [if_pos (by kernel_rfl)]
         try go_simp
         refine (cut_bytes la x.read.lit 70 _ w.heap.size (HLR.out _ (HB.out.grown hHeld hzz (by intro k hk; injection hk; omega))) (by omega) (by omega)).mono ?_
         rintro e w31 ⟨v31, rfl, hv31, rfl⟩
         have HV31 := hide (show Bs _ w.heap.size v31 (x.read.lit.take 70) from hv31)
         clear hv31
         refine hK.out _ _ hHeld (fun hHeld => ?_)
         clear hK K
         try simp only [Act.put, s1_, s2_, s3_]
         refine take_e 36 (i := 8) (v := .pointer (some ⟨g5, 1, none⟩)) rfl (by kernel_rfl) (Or.inl ⟨by kernel_rfl, fun w' hS => exec_fieldG _ _ 1 1 rfl g5 0 rfl (by kernel_rfl) _ (by first | rfl | omega)⟩) hHeld ?_
         try simp only [Act.put, s1_, s2_, s3_]
         refine take_e 37 (i := 9) (v := .pointer (some ⟨g5, 1 + 52, none⟩)) rfl (by kernel_rfl) (Or.inl ⟨by kernel_rfl, fun w' hS => exec_fieldG _ _ 6 52 rfl g5 1 rfl (by kernel_rfl) _ (by first | rfl | omega)⟩) hHeld ?_
         try simp only [Act.put, s1_, s2_, s3_]
         refine wpAnyH_ready (rs := [7]) (by kernel_rfl) (by simp) (AllReadyH.cons rfl (fun K hK => ?_) AllReadyH.nil)
         rw [if_pos (by kernel_rfl)]
         try go_simp
         refine (cut_bytes lb x.write.lit 70 _ w.heap.size (HLW.out _ (HB.out.grown hHeld hzz (by intro k hk; injection hk; omega))) (by omega) (by omega)).mono ?_
         rintro e w35 ⟨v35, rfl, hv35, rfl⟩
         have HV35 := hide (show Bs _ w.heap.size v35 (x.write.lit.take 70) from hv35)
         clear hv35
         refine hK.out _ _ hHeld (fun hHeld => ?_)
         clear hK K
         try simp only [Act.put, s1_, s2_, s3_]
         refine wpAnyH_ready (rs := [10]) (by kernel_rfl) (by simp) (AllReadyH.cons rfl (fun K hK => ?_) AllReadyH.nil)
         rw [if_pos (by kernel_rfl)]
         refine wp_ent_putRD _ _ rfl rfl rfl H5.out HL1.out HL2.out v31 rfl (bs_one_ HV31.out) ?_
         intro ws10 hs10 hg10
         have hbl10 := (Below.refl w.heap.size _).grown hg10 (Nat.le_trans hzz hHeld.size) (by intro k hk; injection hk; omega)
         replace HV31 := hide (HV31.out.below hbl10 (Nat.le_refl _))
         try replace HV35 := hide (HV35.out.below hbl10 (Nat.le_refl _))
         replace H5 := hide hs10
         have HX := hide (World.grownBy.transG hHeld hg10)
         clear hs10 hg10 hbl10
         refine hK.out _ _ HX.out (fun hHeld => ?_)
         clear HX hK K
         try simp only [Act.put, s1_, s2_, s3_]
         refine take_e 38 (i := 11) (v := .pointer (some ⟨g5, 54, none⟩)) rfl (by kernel_rfl) (Or.inl ⟨by kernel_rfl, fun w' hS => exec_fieldG _ _ 2 54 rfl g5 0 rfl (by kernel_rfl) _ (by first | rfl | omega)⟩) hHeld ?_
         try simp only [Act.put, s1_, s2_, s3_]
         refine take_e 39 (i := 12) (v := .pointer (some ⟨g5, 54 + 52, none⟩)) rfl (by kernel_rfl) (Or.inl ⟨by kernel_rfl, fun w' hS => exec_fieldG _ _ 6 52 rfl g5 54 rfl (by kernel_rfl) _ (by first | rfl | omega)⟩) hHeld ?_
         try simp only [Act.put, s1_, s2_, s3_]
         refine wpAnyH_ready (rs := [13]) (by kernel_rfl) (by simp) (AllReadyH.cons rfl (fun K hK => ?_) AllReadyH.nil)
         rw [if_pos (by kernel_rfl)]
         refine wp_ent_putWD _ _ rfl rfl rfl H5.out HL1.out HL2.out v35 rfl (bs_one_ HV35.out) ?_
         intro ws13 hs13 hg13
         have hbl13 := (Below.refl w.heap.size _).grown hg13 (Nat.le_trans hzz hHeld.size) (by intro k hk; injection hk; omega)
         replace HV35 := hide (HV35.out.below hbl13 (Nat.le_refl _))
         try replace HV31 := hide (HV31.out.below hbl13 (Nat.le_refl _))
         replace H5 := hide hs13
         have HX := hide (World.grownBy.transG hHeld hg13)
         clear hs13 hg13 hbl13
         refine hK.out _ _ HX.out (fun hHeld => ?_)
         clear HX hK K
         try simp only [Act.put, s1_, s2_, s3_]
         refine wpAnyH_done (by kernel_rfl) ?_ _
         go_wp2_with fail
         go_meet
         exact ⟨v31, v35, H5.out, HV31.out, HV35.out, hHeld⟩
       case q2_6 =>
        rw [if_pos (by kernel_rfl)]
        refine wp_valueD 34 rfl lb (exec_load_one _ _ rfl g5 106 rfl _ Tryd.underlying26 rfl _ ((H5.out.cell _).trans (ent_litW HL1.out HL2.out))) ?_
        refine hK.out _ _ hHeld (fun hHeld => ?_)
        clear hK K
        try simp only [Act.put, s1_, s2_, s3_]
        refine wpAnyH_ready (rs := [2]) (by kernel_rfl) (by simp) (AllReadyH.cons rfl (fun K hK => ?_) AllReadyH.nil)
        rw [if_pos (by kernel_rfl)]
        refine wp_valueD 30 rfl la (exec_load_one _ _ rfl g5 53 rfl _ Tryd.underlying26 rfl _ ((H5.out.cell _).trans (ent_litR HL1.out HL2.out))) ?_
        refine hK.out _ _ hHeld (fun hHeld => ?_)
        clear hK K
        try simp only [Act.put, s1_, s2_, s3_]
        refine wpAnyH_ready (rs := [3]) (by kernel_rfl) (by simp) (AllReadyH.cons rfl (fun K hK => ?_) AllReadyH.nil)
        rw [if_pos (by kernel_rfl)]
        try go_simp
        refine (cut_bytes la x.read.lit 70 _ w.heap.size (HLR.out _ (HB.out.grown hHeld hzz (by intro k hk; injection hk; omega))) (by omega) (by omega)).mono ?_
        rintro e w31 ⟨v31, rfl, hv31, rfl⟩
        have HV31 := hide (show Bs _ w.heap.size v31 (x.read.lit.take 70) from hv31)
        clear hv31
        refine hK.out _ _ hHeld (fun hHeld => ?_)
        clear hK K
        try simp only [Act.put, s1_, s2_, s3_]
        refine take_e 36 (i := 8) (v := .pointer (some ⟨g5, 1, none⟩)) rfl (by kernel_rfl) (Or.inl ⟨by kernel_rfl, fun w' hS => exec_fieldG _ _ 1 1 rfl g5 0 rfl (by kernel_rfl) _ (by first | rfl | omega)⟩) hHeld ?_
        try simp only [Act.put, s1_, s2_, s3_]
        refine take_e 37 (i := 9) (v := .pointer (some ⟨g5, 1 + 52, none⟩)) rfl (by kernel_rfl) (Or.inl ⟨by kernel_rfl, fun w' hS => exec_fieldG _ _ 6 52 rfl g5 1 rfl (by kernel_rfl) _ (by first | rfl | omega)⟩) hHeld ?_
        try simp only [Act.put, s1_, s2_, s3_]
        refine wpAnyH_ready (rs := [7]) (by kernel_rfl) (by simp) (AllReadyH.cons rfl (fun K hK => ?_) AllReadyH.nil)
        rw [if_pos (by kernel_rfl)]
        try go_simp
        refine (cut_bytes lb x.write.lit 70 _ w.heap.size (HLW.out _ (HB.out.grown hHeld hzz (by intro k hk; injection hk; omega))) (by omega) (by omega)).mono ?_
        rintro e w35 ⟨v35, rfl, hv35, rfl⟩
        have HV35 := hide (show Bs _ w.heap.size v35 (x.write.lit.take 70) from hv35)
        clear hv35
        refine hK.out _ _ hHeld (fun hHeld => ?_)
        clear hK K
        try simp only [Act.put, s1_, s2_, s3_]
        refine wpAnyH_ready (rs := [10]) (by kernel_rfl) (by simp) (AllReadyH.cons rfl (fun K hK => ?_) AllReadyH.nil)
        rw [if_pos (by kernel_rfl)]
        refine wp_ent_putRD _ _ rfl rfl rfl H5.out HL1.out HL2.out v31 rfl (bs_one_ HV31.out) ?_
        intro ws10 hs10 hg10
        have hbl10 := (Below.refl w.heap.size _).grown hg10 (Nat.le_trans hzz hHeld.size) (by intro k hk; injection hk; omega)
        replace HV31 := hide (HV31.out.below hbl10 (Nat.le_refl _))
        try replace HV35 := hide (HV35.out.below hbl10 (Nat.le_refl _))
        replace H5 := hide hs10
        have HX := hide (World.grownBy.transG hHeld hg10)
        clear hs10 hg10 hbl10
        refine hK.out _ _ HX.out (fun hHeld => ?_)
        clear HX hK K
        try simp only [Act.put, s1_, s2_, s3_]
        refine take_e 38 (i := 11) (v := .pointer (some ⟨g5, 54, none⟩)) rfl (by kernel_rfl) (Or.inl ⟨by kernel_rfl, fun w' hS => exec_fieldG _ _ 2 54 rfl g5 0 rfl (by kernel_rfl) _ (by first | rfl | omega)⟩) hHeld ?_
        try simp only [Act.put, s1_, s2_, s3_]
        refine take_e 39 (i := 12) (v := .pointer (some ⟨g5, 54 + 52, none⟩)) rfl (by kernel_rfl) (Or.inl ⟨by kernel_rfl, fun w' hS => exec_fieldG _ _ 6 52 rfl g5 54 rfl (by kernel_rfl) _ (by first | rfl | omega)⟩) hHeld ?_
        try simp only [Act.put, s1_, s2_, s3_]
        refine wpAnyH_ready (rs := [13]) (by kernel_rfl) (by simp) (AllReadyH.cons rfl (fun K hK => ?_) AllReadyH.nil)
        rw [if_pos (by kernel_rfl)]
        refine wp_ent_putWD _ _ rfl rfl rfl H5.out HL1.out HL2.out v35 rfl (bs_one_ HV35.out) ?_
        intro ws13 hs13 hg13
        have hbl13 := (Below.refl w.heap.size _).grown hg13 (Nat.le_trans hzz hHeld.size) (by intro k hk; injection hk; omega)
        replace HV35 := hide (HV35.out.below hbl13 (Nat.le_refl _))
        try replace HV31 := hide (HV31.out.below hbl13 (Nat.le_refl _))
        replace H5 := hide hs13
        have HX := hide (World.grownBy.transG hHeld hg13)
        clear hs13 hg13 hbl13
        refine hK.out _ _ HX.out (fun hHeld => ?_)
        clear HX hK K
        try simp only [Act.put, s1_, s2_, s3_]
        refine wpAnyH_done (by kernel_rfl) ?_ _
        go_wp2_with fail
        go_meet
        exact ⟨v31, v35, H5.out, HV31.out, HV35.out, hHeld⟩
      obtain ⟨v31, v35, hb31, hv31, hv35, hHeld⟩ := hcut
      replace HOWN := hide (HOWN.out.past H5p.out (by omega) (by kernel_rfl) (fun e => Nat.lt_irrefl _ (HOLT.out _ e)) hHeld hzz)
      replace HB := hide (HB.out.grown hHeld hzz (by intro k hk; injection hk; omega))
      have hze := HB.out.size
      have HYx := hide (show (EntL.mk (cutE x) v31 v35).Ok wc w.heap.size from ⟨cutE_wf HXOK.out.toWf, .inl hv31, .inl hv35⟩)
      have HSZ2 := hide (show (Tryd.prog.info? 45).map (·.size) = some (entC (cutE x) v31 v35).length by have := EntL.len (x := EntL.mk (cutE x) v31 v35) HYx.out.wf; unfold EntL.cells at this; rw [this]; exact size_ent)
      replace H5 := hide (show Blk wc g5 45 (entC (cutE x) v31 v35) from hb31)
      clear hb31 hv31 hv35 hHeld
      go_wp2_with (first
       | go_skip
       | (refine wpList_st_all 45 _ rfl rfl rfl H5.out _ Tryd.underlying45 rfl HSZ2.out ?_)
       | (refine wpList_lit_ent rfl _ rfl (EntL.mk (cutE x) v31 v35) HYx.out.wf rfl ?_)
       | (at_builtin; refine wpList_append_ent rfl _ _ rfl w.heap.size w.heap.size u3 ((l.take i).map cutE) rfl HOWN.out hze HOL.out (EntL.mk (cutE x) v31 v35) HYx.out rfl ?_; intro vz wz hoz hpz hkz; rw [← HAT.out] at hoz; have HOWNb := hide hoz; replace HB := hide (HB.out.trans hpz); clear hoz hpz hkz))
      go_roundw
      case measure => simp [intOf]; omega
      case rel => exact ⟨i + 1, by go_num, by omega, HOWNb.out, HB.out⟩
    · have hq : ¬ (70 : Int) < (x.name.length : Int) := by omega
      have HNM := hide (show x.name.take 70 = x.name from List.take_of_length_le (by omega))
      clear h70
      have HL1 := hide (show LenE x from ⟨HXOK.out.rWf.keyL, HXOK.out.rWf.fpL⟩)
      have HL2 := hide (show LenW x from ⟨HXOK.out.wWf.keyL, HXOK.out.wWf.fpL⟩)
      have H5n := hide (fun (u v : Value) => show entC x u v = entC (cutE x) u v by unfold cutE; rw [HNM.out]; rfl)
      go_upto_region 8 with (first
       | go_skip
       | (refine wpList_val_ rfl (exec_loadAll 45 _ rfl b (o + i * 108) rfl _ (entC x la lb) HRG.out Tryd.underlying45 rfl HSZ.out) ?_)
       | (refine wpList_alloc_blk rfl 45 rfl _ zero_ent ?_; intro w5 hb5 hw5 hs5; rw [HG5.out] at hb5; try rw [HG5.out]; have H5 := hide hb5; replace HOWN := hide (HOWN.out.keptB hw5 hzr); replace HB := hide (HB.out.trans (hw5.mono hzr)); have hz5 : w.heap.size ≤ w5.heap.size := Nat.le_trans hzr hw5.size; clear hb5 hw5)
       | (refine wpList_st_putAll _ _ _ rfl rfl rfl H5.out (entC x la lb) rfl (by rw [ent_len HXOK.out, ent_len (w := w) (B := 0) ⟨EntD.none_wf, Bs.nil_ _ _, Bs.nil_ _ _⟩]) HSZ.out HONES.out ?_; intro wq hb6 hg6 hs6; replace HOWN := hide (HOWN.out.past H5.out (by omega) (by kernel_rfl) (fun e => Nat.lt_irrefl _ (HOLT.out _ e)) hg6 hz5); replace H5 := hide hb6; replace HB := hide (HB.out.grown hg6 hz5 (by intro k hk; injection hk; omega)); have hzq : w.heap.size ≤ wq.heap.size := HB.out.size; clear hb6 hg6)
       | (refine wpList_st_get 9 _ rfl 0 rfl rfl H5.out _ Tryd.underlying9 rfl _ HX0.out ?_)
       | (refine wpList_val_ rfl (exec_len_strM _ rfl x.name rfl) ?_))
      try simp only [Act.put, s1_, s2_, s3_]
      have H5p := H5
      have hzz : w.heap.size ≤ wq.heap.size := HB.out.size
      go_cut [] from 28 to 39 (fun wx => ∃ v31 v35, Blk wx g5 45 (entC x v31 v35) ∧ Bs wx w.heap.size v31 (x.read.lit.take 70) ∧ Bs wx w.heap.size v35 (x.write.lit.take 70) ∧ wq.grownBy wx (some g5))
      case first =>
       refine wp_region_held_drew (S := fun w' => wq.grownBy w' (some g5)) (by kernel_rfl) (World.grownBy.drewG _ _) (fun hHeld => ?_)
       replace H5 := hide H5.out.drew
       refine take_e 28 (i := 0) (v := .pointer (some ⟨g5, 1, none⟩)) rfl (by kernel_rfl) (Or.inl ⟨by kernel_rfl, fun w' hS => exec_fieldG _ _ 1 1 rfl g5 0 rfl (by kernel_rfl) _ (by first | rfl | omega)⟩) hHeld ?_
       try simp only [Act.put, s1_, s2_, s3_]
       refine take_e 29 (i := 1) (v := .pointer (some ⟨g5, 1 + 52, none⟩)) rfl (by kernel_rfl) (Or.inl ⟨by kernel_rfl, fun w' hS => exec_fieldG _ _ 6 52 rfl g5 1 rfl (by kernel_rfl) _ (by first | rfl | omega)⟩) hHeld ?_
       try simp only [Act.put, s1_, s2_, s3_]
       refine take_e 32 (i := 4) (v := .pointer (some ⟨g5, 54, none⟩)) rfl (by kernel_rfl) (Or.inl ⟨by kernel_rfl, fun w' hS => exec_fieldG _ _ 2 54 rfl g5 0 rfl (by kernel_rfl) _ (by first | rfl | omega)⟩) hHeld ?_
       try simp only [Act.put, s1_, s2_, s3_]
       refine take_e 33 (i := 5) (v := .pointer (some ⟨g5, 54 + 52, none⟩)) rfl (by kernel_rfl) (Or.inl ⟨by kernel_rfl, fun w' hS => exec_fieldG _ _ 6 52 rfl g5 54 rfl (by kernel_rfl) _ (by first | rfl | omega)⟩) hHeld ?_
       try simp only [Act.put, s1_, s2_, s3_]
       refine wpAnyH_ready (rs := [2, 6]) (by kernel_rfl) (by simp) (AllReadyH.cons rfl (fun K hK => ?q1_2) (AllReadyH.cons rfl (fun K hK => ?q2_6) AllReadyH.nil))
       case q1_2 =>
        rw [if_pos (by kernel_rfl)]
        refine wp_valueD 30 rfl la (exec_load_one _ _ rfl g5 53 rfl _ Tryd.underlying26 rfl _ ((H5.out.cell _).trans (ent_litR HL1.out HL2.out))) ?_
        refine hK.out _ _ hHeld (fun hHeld => ?_)
        clear hK K
        try simp only [Act.put, s1_, s2_, s3_]
        refine wpAnyH_ready (rs := [3, 6]) (by kernel_rfl) (by simp) (AllReadyH.cons rfl (fun K hK => ?q3_3) (AllReadyH.cons rfl (fun K hK => ?q4_6) AllReadyH.nil))
        case q3_3 =>
         rw [if_pos (by kernel_rfl)]
         try go_simp
         refine (cut_bytes la x.read.lit 70 _ w.heap.size (HLR.out _ (HB.out.grown hHeld hzz (by intro k hk; injection hk; omega))) (by omega) (by omega)).mono ?_
         rintro e w31 ⟨v31, rfl, hv31, rfl⟩
         have HV31 := hide (show Bs _ w.heap.size v31 (x.read.lit.take 70) from hv31)
         clear hv31
         refine hK.out _ _ hHeld (fun hHeld => ?_)
         clear hK K
         try simp only [Act.put, s1_, s2_, s3_]
         refine wpAnyH_ready (rs := [6]) (by kernel_rfl) (by simp) (AllReadyH.cons rfl (fun K hK => ?_) AllReadyH.nil)
         rw [if_pos (by kernel_rfl)]
         refine wp_valueD 34 rfl lb (exec_load_one _ _ rfl g5 106 rfl _ Tryd.underlying26 rfl _ ((H5.out.cell _).trans (ent_litW HL1.out HL2.out))) ?_
         refine hK.out _ _ hHeld (fun hHeld => ?_)
         clear hK K
         try simp only [Act.put, s1_, s2_, s3_]
         refine take_e 36 (i := 8) (v := .pointer (some ⟨g5, 1, none⟩)) rfl (by kernel_rfl) (Or.inl ⟨by kernel_rfl, fun w' hS => exec_fieldG _ _ 1 1 rfl g5 0 rfl (by kernel_rfl) _ (by first | rfl | omega)⟩) hHeld ?_
         try simp only [Act.put, s1_, s2_, s3_]
         refine take_e 37 (i := 9) (v := .pointer (some ⟨g5, 1 + 52, none⟩)) rfl (by kernel_rfl) (Or.inl ⟨by kernel_rfl, fun w' hS => exec_fieldG _ _ 6 52 rfl g5 1 rfl (by kernel_rfl) _ (by first | rfl | omega)⟩) hHeld ?_
         try simp only [Act.put, s1_, s2_, s3_]
         refine wpAnyH_ready (rs := [7]) (by kernel_rfl) (by simp) (AllReadyH.cons rfl (fun K hK => ?_) AllReadyH.nil)
         rw [if_pos (by kernel_rfl)]
         try go_simp
         refine (cut_bytes lb x.write.lit 70 _ w.heap.size (HLW.out _ (HB.out.grown hHeld hzz (by intro k hk; injection hk; omega))) (by omega) (by omega)).mono ?_
         rintro e w35 ⟨v35, rfl, hv35, rfl⟩
         have HV35 := hide (show Bs _ w.heap.size v35 (x.write.lit.take 70) from hv35)
         clear hv35
         refine hK.out _ _ hHeld (fun hHeld => ?_)
         clear hK K
         try simp only [Act.put, s1_, s2_, s3_]
         refine wpAnyH_ready (rs := [10]) (by kernel_rfl) (by simp) (AllReadyH.cons rfl (fun K hK => ?_) AllReadyH.nil)
         rw [if_pos (by kernel_rfl)]
         refine wp_ent_putRD _ _ rfl rfl rfl H5.out HL1.out HL2.out v31 rfl (bs_one_ HV31.out) ?_
         intro ws10 hs10 hg10
         have hbl10 := (Below.refl w.heap.size _).grown hg10 (Nat.le_trans hzz hHeld.size) (by intro k hk; injection hk; omega)
         replace HV31 := hide (HV31.out.below hbl10 (Nat.le_refl _))
         try replace HV35 := hide (HV35.out.below hbl10 (Nat.le_refl _))
         replace H5 := hide hs10
         have HX := hide (World.grownBy.transG hHeld hg10)
         clear hs10 hg10 hbl10
         refine hK.out _ _ HX.out (fun hHeld => ?_)
         clear HX hK K
         try simp only [Act.put, s1_, s2_, s3_]
         refine take_e 38 (i := 11) (v := .pointer (some ⟨g5, 54, none⟩)) rfl (by kernel_rfl) (Or.inl ⟨by kernel_rfl, fun w' hS => exec_fieldG _ _ 2 54 rfl g5 0 rfl (by kernel_rfl) _ (by first | rfl | omega)⟩) hHeld ?_
         try simp only [Act.put, s1_, s2_, s3_]
         refine take_e 39 (i := 12) (v := .pointer (some ⟨g5, 54 + 52, none⟩)) rfl (by kernel_rfl) (Or.inl ⟨by kernel_rfl, fun w' hS => exec_fieldG _ _ 6 52 rfl g5 54 rfl (by kernel_rfl) _ (by first | rfl | omega)⟩) hHeld ?_
         try simp only [Act.put, s1_, s2_, s3_]
         refine wpAnyH_ready (rs := [13]) (by kernel_rfl) (by simp) (AllReadyH.cons rfl (fun K hK => ?_) AllReadyH.nil)
         rw [if_pos (by kernel_rfl)]
         refine wp_ent_putWD _ _ rfl rfl rfl H5.out HL1.out HL2.out v35 rfl (bs_one_ HV35.out) ?_
         intro ws13 hs13 hg13
         have hbl13 := (Below.refl w.heap.size _).grown hg13 (Nat.le_trans hzz hHeld.size) (by intro k hk; injection hk; omega)
         replace HV35 := hide (HV35.out.below hbl13 (Nat.le_refl _))
         try replace HV31 := hide (HV31.out.below hbl13 (Nat.le_refl _))
         replace H5 := hide hs13
         have HX := hide (World.grownBy.transG hHeld hg13)
         clear hs13 hg13 hbl13
         refine hK.out _ _ HX.out (fun hHeld => ?_)
         clear HX hK K
         try simp only [Act.put, s1_, s2_, s3_]
         refine wpAnyH_done (by kernel_rfl) ?_ _
         go_wp2_with fail
         go_meet
         exact ⟨v31, v35, H5.out, HV31.out, HV35.out, hHeld⟩
        case q4_6 =>
         rw [if_pos (by kernel_rfl)]
         refine wp_valueD 34 rfl lb (exec_load_one _ _ rfl g5 106 rfl _ Tryd.underlying26 rfl _ ((H5.out.cell _).trans (ent_litW HL1.out HL2.out))) ?_
         refine hK.out _ _ hHeld (fun hHeld => ?_)
         clear hK K
         try simp only [Act.put, s1_, s2_, s3_]
         refine wpAnyH_ready (rs := [3]) (by kernel_rfl) (by simp) (AllReadyH.cons rfl (fun K hK => ?_) AllReadyH.nil)
         rw [if_pos (by kernel_rfl)]
         try go_simp
         refine (cut_bytes la x.read.lit 70 _ w.heap.size (HLR.out _ (HB.out.grown hHeld hzz (by intro k hk; injection hk; omega))) (by omega) (by omega)).mono ?_
         rintro e w31 ⟨v31, rfl, hv31, rfl⟩
         have HV31 := hide (show Bs _ w.heap.size v31 (x.read.lit.take 70) from hv31)
         clear hv31
         refine hK.out _ _ hHeld (fun hHeld => ?_)
         clear hK K
         try simp only [Act.put, s1_, s2_, s3_]
         refine take_e 36 (i := 8) (v := .pointer (some ⟨g5, 1, none⟩)) rfl (by kernel_rfl) (Or.inl ⟨by kernel_rfl, fun w' hS => exec_fieldG _ _ 1 1 rfl g5 0 rfl (by kernel_rfl) _ (by first | rfl | omega)⟩) hHeld ?_
         try simp only [Act.put, s1_, s2_, s3_]
         refine take_e 37 (i := 9) (v := .pointer (some ⟨g5, 1 + 52, none⟩)) rfl (by kernel_rfl) (Or.inl ⟨by kernel_rfl, fun w' hS => exec_fieldG _ _ 6 52 rfl g5 1 rfl (by kernel_rfl) _ (by first | rfl | omega)⟩) hHeld ?_
         try simp only [Act.put, s1_, s2_, s3_]
         refine wpAnyH_ready (rs := [7]) (by kernel_rfl) (by simp) (AllReadyH.cons rfl (fun K hK => ?_) AllReadyH.nil)
         rw [if_pos (by kernel_rfl)]
         try go_simp
         refine (cut_bytes lb x.write.lit 70 _ w.heap.size (HLW.out _ (HB.out.grown hHeld hzz (by intro k hk; injection hk; omega))) (by omega) (by omega)).mono ?_
         rintro e w35 ⟨v35, rfl, hv35, rfl⟩
         have HV35 := hide (show Bs _ w.heap.size v35 (x.write.lit.take 70) from hv35)
         clear hv35
         refine hK.out _ _ hHeld (fun hHeld => ?_)
         clear hK K
         try simp only [Act.put, s1_, s2_, s3_]
         refine wpAnyH_ready (rs := [10]) (by kernel_rfl) (by simp) (AllReadyH.cons rfl (fun K hK => ?_) AllReadyH.nil)
         rw [if_pos (by kernel_rfl)]
         refine wp_ent_putRD _ _ rfl rfl rfl H5.out HL1.out HL2.out v31 rfl (bs_one_ HV31.out) ?_
         intro ws10 hs10 hg10
         have hbl10 := (Below.refl w.heap.size _).grown hg10 (Nat.le_trans hzz hHeld.size) (by intro k hk; injection hk; omega)
         replace HV31 := hide (HV31.out.below hbl10 (Nat.le_refl _))
         try replace HV35 := hide (HV35.out.below hbl10 (Nat.le_refl _))
         replace H5 := hide hs10
         have HX := hide (World.grownBy.transG hHeld hg10)
         clear hs10 hg10 hbl10
         refine hK.out _ _ HX.out (fun hHeld => ?_)
         clear HX hK K
         try simp only [Act.put, s1_, s2_, s3_]
         refine take_e 38 (i := 11) (v := .pointer (some ⟨g5, 54, none⟩)) rfl (by kernel_rfl) (Or.inl ⟨by kernel_rfl, fun w' hS => exec_fieldG _ _ 2 54 rfl g5 0 rfl (by kernel_rfl) _ (by first | rfl | omega)⟩) hHeld ?_
         try simp only [Act.put, s1_, s2_, s3_]
         refine take_e 39 (i := 12) (v := .pointer (some ⟨g5, 54 + 52, none⟩)) rfl (by kernel_rfl) (Or.inl ⟨by kernel_rfl, fun w' hS => exec_fieldG _ _ 6 52 rfl g5 54 rfl (by kernel_rfl) _ (by first | rfl | omega)⟩) hHeld ?_
         try simp only [Act.put, s1_, s2_, s3_]
         refine wpAnyH_ready (rs := [13]) (by kernel_rfl) (by simp) (AllReadyH.cons rfl (fun K hK => ?_) AllReadyH.nil)
         rw [if_pos (by kernel_rfl)]
         refine wp_ent_putWD _ _ rfl rfl rfl H5.out HL1.out HL2.out v35 rfl (bs_one_ HV35.out) ?_
         intro ws13 hs13 hg13
         have hbl13 := (Below.refl w.heap.size _).grown hg13 (Nat.le_trans hzz hHeld.size) (by intro k hk; injection hk; omega)
         replace HV35 := hide (HV35.out.below hbl13 (Nat.le_refl _))
         try replace HV31 := hide (HV31.out.below hbl13 (Nat.le_refl _))
         replace H5 := hide hs13
         have HX := hide (World.grownBy.transG hHeld hg13)
         clear hs13 hg13 hbl13
         refine hK.out _ _ HX.out (fun hHeld => ?_)
         clear HX hK K
         try simp only [Act.put, s1_, s2_, s3_]
         refine wpAnyH_done (by kernel_rfl) ?_ _
         go_wp2_with fail
         go_meet
         exact ⟨v31, v35, H5.out, HV31.out, HV35.out, hHeld⟩
       case q2_6 =>
        rw [if_pos (by kernel_rfl)]
        refine wp_valueD 34 rfl lb (exec_load_one _ _ rfl g5 106 rfl _ Tryd.underlying26 rfl _ ((H5.out.cell _).trans (ent_litW HL1.out HL2.out))) ?_
        refine hK.out _ _ hHeld (fun hHeld => ?_)
        clear hK K
        try simp only [Act.put, s1_, s2_, s3_]
        refine wpAnyH_ready (rs := [2]) (by kernel_rfl) (by simp) (AllReadyH.cons rfl (fun K hK => ?_) AllReadyH.nil)
        rw [if_pos (by kernel_rfl)]
        refine wp_valueD 30 rfl la (exec_load_one _ _ rfl g5 53 rfl _ Tryd.underlying26 rfl _ ((H5.out.cell _).trans (ent_litR HL1.out HL2.out))) ?_
        refine hK.out _ _ hHeld (fun hHeld => ?_)
        clear hK K
        try simp only [Act.put, s1_, s2_, s3_]
        refine wpAnyH_ready (rs := [3]) (by kernel_rfl) (by simp) (AllReadyH.cons rfl (fun K hK => ?_) AllReadyH.nil)
        rw [if_pos (by kernel_rfl)]
        try go_simp
        refine (cut_bytes la x.read.lit 70 _ w.heap.size (HLR.out _ (HB.out.grown hHeld hzz (by intro k hk; injection hk; omega))) (by omega) (by omega)).mono ?_
        rintro e w31 ⟨v31, rfl, hv31, rfl⟩
        have HV31 := hide (show Bs _ w.heap.size v31 (x.read.lit.take 70) from hv31)
        clear hv31
        refine hK.out _ _ hHeld (fun hHeld => ?_)
        clear hK K
        try simp only [Act.put, s1_, s2_, s3_]
        refine take_e 36 (i := 8) (v := .pointer (some ⟨g5, 1, none⟩)) rfl (by kernel_rfl) (Or.inl ⟨by kernel_rfl, fun w' hS => exec_fieldG _ _ 1 1 rfl g5 0 rfl (by kernel_rfl) _ (by first | rfl | omega)⟩) hHeld ?_
        try simp only [Act.put, s1_, s2_, s3_]
        refine take_e 37 (i := 9) (v := .pointer (some ⟨g5, 1 + 52, none⟩)) rfl (by kernel_rfl) (Or.inl ⟨by kernel_rfl, fun w' hS => exec_fieldG _ _ 6 52 rfl g5 1 rfl (by kernel_rfl) _ (by first | rfl | omega)⟩) hHeld ?_
        try simp only [Act.put, s1_, s2_, s3_]
        refine wpAnyH_ready (rs := [7]) (by kernel_rfl) (by simp) (AllReadyH.cons rfl (fun K hK => ?_) AllReadyH.nil)
        rw [if_pos (by kernel_rfl)]
        try go_simp
        refine (cut_bytes lb x.write.lit 70 _ w.heap.size (HLW.out _ (HB.out.grown hHeld hzz (by intro k hk; injection hk; omega))) (by omega) (by omega)).mono ?_
        rintro e w35 ⟨v35, rfl, hv35, rfl⟩
        have HV35 := hide (show Bs _ w.heap.size v35 (x.write.lit.take 70) from hv35)
        clear hv35
        refine hK.out _ _ hHeld (fun hHeld => ?_)
        clear hK K
        try simp only [Act.put, s1_, s2_, s3_]
        refine wpAnyH_ready (rs := [10]) (by kernel_rfl) (by simp) (AllReadyH.cons rfl (fun K hK => ?_) AllReadyH.nil)
        rw [if_pos (by kernel_rfl)]
        refine wp_ent_putRD _ _ rfl rfl rfl H5.out HL1.out HL2.out v31 rfl (bs_one_ HV31.out) ?_
        intro ws10 hs10 hg10
        have hbl10 := (Below.refl w.heap.size _).grown hg10 (Nat.le_trans hzz hHeld.size) (by intro k hk; injection hk; omega)
        replace HV31 := hide (HV31.out.below hbl10 (Nat.le_refl _))
        try replace HV35 := hide (HV35.out.below hbl10 (Nat.le_refl _))
        replace H5 := hide hs10
        have HX := hide (World.grownBy.transG hHeld hg10)
        clear hs10 hg10 hbl10
        refine hK.out _ _ HX.out (fun hHeld => ?_)
        clear HX hK K
        try simp only [Act.put, s1_, s2_, s3_]
        refine take_e 38 (i := 11) (v := .pointer (some ⟨g5, 54, none⟩)) rfl (by kernel_rfl) (Or.inl ⟨by kernel_rfl, fun w' hS => exec_fieldG _ _ 2 54 rfl g5 0 rfl (by kernel_rfl) _ (by first | rfl | omega)⟩) hHeld ?_
        try simp only [Act.put, s1_, s2_, s3_]
        refine take_e 39 (i := 12) (v := .pointer (some ⟨g5, 54 + 52, none⟩)) rfl (by kernel_rfl) (Or.inl ⟨by kernel_rfl, fun w' hS => exec_fieldG _ _ 6 52 rfl g5 54 rfl (by kernel_rfl) _ (by first | rfl | omega)⟩) hHeld ?_
        try simp only [Act.put, s1_, s2_, s3_]
        refine wpAnyH_ready (rs := [13]) (by kernel_rfl) (by simp) (AllReadyH.cons rfl (fun K hK => ?_) AllReadyH.nil)
        rw [if_pos (by kernel_rfl)]
        refine wp_ent_putWD _ _ rfl rfl rfl H5.out HL1.out HL2.out v35 rfl (bs_one_ HV35.out) ?_
        intro ws13 hs13 hg13
        have hbl13 := (Below.refl w.heap.size _).grown hg13 (Nat.le_trans hzz hHeld.size) (by intro k hk; injection hk; omega)
        replace HV35 := hide (HV35.out.below hbl13 (Nat.le_refl _))
        try replace HV31 := hide (HV31.out.below hbl13 (Nat.le_refl _))
        replace H5 := hide hs13
        have HX := hide (World.grownBy.transG hHeld hg13)
        clear hs13 hg13 hbl13
        refine hK.out _ _ HX.out (fun hHeld => ?_)
        clear HX hK K
        try simp only [Act.put, s1_, s2_, s3_]
        refine wpAnyH_done (by kernel_rfl) ?_ _
        go_wp2_with fail
        go_meet
        exact ⟨v31, v35, H5.out, HV31.out, HV35.out, hHeld⟩
      obtain ⟨v31, v35, hb31, hv31, hv35, hHeld⟩ := hcut
      replace HOWN := hide (HOWN.out.past H5p.out (by omega) (by kernel_rfl) (fun e => Nat.lt_irrefl _ (HOLT.out _ e)) hHeld hzz)
      replace HB := hide (HB.out.grown hHeld hzz (by intro k hk; injection hk; omega))
      have hze := HB.out.size
      have HYx := hide (show (EntL.mk (cutE x) v31 v35).Ok wc w.heap.size from ⟨cutE_wf HXOK.out.toWf, .inl hv31, .inl hv35⟩)
      have HSZ2 := hide (show (Tryd.prog.info? 45).map (·.size) = some (entC (cutE x) v31 v35).length by have := EntL.len (x := EntL.mk (cutE x) v31 v35) HYx.out.wf; unfold EntL.cells at this; rw [this]; exact size_ent)
      replace H5 := hide (show Blk wc g5 45 (entC (cutE x) v31 v35) from (H5n.out v31 v35 ▸ hb31))
      clear hb31 hv31 hv35 hHeld
      go_wp2_with (first
       | go_skip
       | (refine wpList_st_all 45 _ rfl rfl rfl H5.out _ Tryd.underlying45 rfl HSZ2.out ?_)
       | (refine wpList_lit_ent rfl _ rfl (EntL.mk (cutE x) v31 v35) HYx.out.wf rfl ?_)
       | (at_builtin; refine wpList_append_ent rfl _ _ rfl w.heap.size w.heap.size u3 ((l.take i).map cutE) rfl HOWN.out hze HOL.out (EntL.mk (cutE x) v31 v35) HYx.out rfl ?_; intro vz wz hoz hpz hkz; rw [← HAT.out] at hoz; have HOWNb := hide hoz; replace HB := hide (HB.out.trans hpz); clear hoz hpz hkz))
      go_roundw
      case measure => simp [intOf]; omega
      case rel => exact ⟨i + 1, by go_num, by omega, HOWNb.out, HB.out⟩
  · have HF := hide (show (l.take i).map cutE = cutEnts l by
     unfold cutEnts
     congr 1
     by_cases h : i = 18
     · rw [h]
     · have : i = n := by omega
       rw [List.take_of_length_le (by rw [HN.out]; omega), List.take_of_length_le (by rw [HN.out]; omega)])
    rw [HF.out] at HOWN
    by_cases hl : i < n
    · have hlt' : (i : Int) < (n : Int) := by omega
      have hl18 : ¬ (i : Int) < 18 := by omega
      clear hlt
      go_wp2_with go_skip
      go_ret
      exact ⟨_, rfl, HOWN.out, HB.out⟩
    · have hlt' : ¬ (i : Int) < (n : Int) := by omega
      clear hlt
      go_wp2_with go_skip
      go_ret
      exact ⟨_, rfl, HOWN.out, HB.out⟩
end Go.Proofs.YthdjgebbjogmiaaDoor
