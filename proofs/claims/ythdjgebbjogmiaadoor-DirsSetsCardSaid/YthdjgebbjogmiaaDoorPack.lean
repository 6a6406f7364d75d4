/- dirs.pack: rows of entries; dirs.Pack. Condition: the table of powers of ten stands. -/
import Derived.Test.YthdjgebbjogmiaaDoorJoin17
import Derived.Test.YthdjgebbjogmiaaDoorJoin18
import Derived.Test.YthdjgebbjogmiaaDoorJoin5
import Derived.Test.YthdjgebbjogmiaaDoorJoin19
import Derived.Test.YthdjgebbjogmiaaDoorDirRight
set_option linter.unusedVariables false
set_option linter.unusedSimpArgs false
namespace Go.Proofs.YthdjgebbjogmiaaDoor
open Go Go.RowKit
set_option linter.unusedVariables false
set_option linter.unusedSimpArgs false
set_option maxRecDepth 100000
set_option maxHeartbeats 16000000
theorem pack_any (c : CapD) (lit v : Value) (l : List EntD) (w : World) (hc : c.Wf) (hl1 : lit.oneCell' = true) (hv : EntsB w w.heap.size v l) (hr : ∀ e ∈ l, oneB e = true) (hn : l.length ≤ 16) (ht : Tab w w.heap.size) :
 Calls Tryd.prog 41 #[capV c lit, v] w fun r w' => ∃ v', r = .returned v' ∧ RowB w' w.heap.size v' (packF c.key l) ∧ Below w.heap.size w w' := by
 have HT := hide ht
 obtain ⟨A, k, rfl, h1, h2, h3⟩ := hv
 unfold maxLen at h2
 have HA := hide h3
 have HC := hide hc
 have HRT := hide hr
 have HWFN := hide (show ∀ e ∈ l, e.Wf ∧ e.name.length ≤ 64 from fun e he => by
  obtain ⟨j, hj, rfl⟩ := List.getElem_of_mem he
  obtain ⟨b, o, _, _, hca⟩ := h3 (by omega)
  obtain ⟨_, _, hok, _⟩ := hca j hj
  exact ⟨hok.toWf, ((oneB_iff _).1 (hr _ (List.getElem_mem hj))).1.2⟩)
 obtain ⟨n, HN⟩ : ∃ k, Hid (l.length = k) := ⟨_, hide rfl⟩
 obtain ⟨key, HKEY⟩ : ∃ k, Hid (c.key = k) := ⟨_, hide rfl⟩
 rw [HN.out] at h1 hn ⊢
 rw [HKEY.out]
 obtain ⟨g2, HG2⟩ : ∃ k, Hid (w.heap.size = k) := ⟨_, hide rfl⟩
 clear h3 hr hc ht
 go_enter Tryd.func41, Tryd.ntmps41
 go_wp2_with (first
  | (refine wpList_cap_new (c := c) (lit := lit) _ rfl rfl rfl HC.out.keyL HC.out.fpL hl1 ?_; intro w1 hb1 hw1 hs1; rw [HG2.out] at hb1 hs1; try rw [HG2.out]; have H2 := hide hb1; have HW1 := hide hw1; have HS1 := hide hs1; clear hb1 hw1 hs1))
 obtain ⟨base, HBASE⟩ : ∃ k, Hid (w1.heap.size = k) := ⟨_, hide rfl⟩
 have hbw : w1.heap.size ≤ base ∧ base ≤ w1.heap.size := by have := HBASE.out; omega
 have hbase : w.heap.size ≤ base := by have := HBASE.out; have := HW1.out.size; omega
 have hH2_b : g2 < base := by have := HBASE.out; have := HS1.out; omega
 have HBe := hide (Below.refl base w1)
 go_loopw [5, 15] (fun v5 v15 wr => ∃ (i : Nat), v15 = .int .i64 (i : Int) ∧ i ≤ n ∧ RowB wr base v5 (packF key (l.take i)) ∧ Below base w1 wr) (fun _ v15 _ => n - (intOf v15).toNat)
 case atStart => exact ⟨0, by go_num, by omega, RowB.nil_ _ _, HBe.out⟩
 case round =>
  obtain ⟨i, rfl, hin, ho5, hb⟩ := hrel
  have HO5 := hide ho5
  have HB := hide hb
  have hzr : base ≤ wr.heap.size := Nat.le_trans hbw.2 hb.size
  replace H2 := hide (H2.out.below hb hH2_b)
  clear ho5 hb HBe
  by_cases hlt : i < n
  · skip
    have hlt' : (i : Int) < (n : Int) := by omega
    obtain ⟨b, o, rfl, hbb, hca⟩ := HA.out (by rw [HN.out]; omega)
    obtain ⟨la, lb, hok, hrg⟩ := hca i (by rw [HN.out]; exact hlt)
    have HAT := hide (packF_take key l i (by rw [HN.out]; exact hlt))
    have hone := HRT.out _ (List.getElem_mem (show i < l.length by rw [HN.out]; exact hlt))
    obtain ⟨x, HX⟩ : ∃ x, Hid (l[i]'(by rw [HN.out]; exact hlt) = x) := ⟨_, hide rfl⟩
    rw [HX.out] at hok hrg HAT hone
    have HXOK := hide hok
    have hiff := (oneB_iff x).1 hone
    have HRD := hide hiff.2.1
    have HNL := hide hiff.1
    have HRLN := hide (rowE_len key hok.toWf hiff.1.2)
    have HRBY := hide (rowE_bytes key hok.nameB)
    have HSZ := hide (show (Tryd.prog.info? 45).map (·.size) = some (entC x la lb).length by rw [ent_len hok]; exact size_ent)
    have HSR := hide (show (Tryd.prog.info? 28).map (·.size) = some (capCells x.read la).length by rw [cc_len la hok.rWf.keyL hok.rWf.fpL]; exact size_cap)
    have HSW := hide (show (Tryd.prog.info? 28).map (·.size) = some (capCells x.write lb).length by rw [cc_len lb hok.wWf.keyL hok.wWf.fpL]; exact size_cap)
    have HRGw := hide (fun (W : World) (hW : Below base w1 W) (j : Nat) (u : Value) (hu : (entC x la lb)[j]? = some u) => show W.cell? ⟨b, o + i * 108 + j, none⟩ = some u from ((HW1.out.trans (hW.mono hbase)).cell (p := ⟨b, o + i * 108 + j, none⟩) hbb).trans (hrg j u hu))
    have HLR := hide (fun (W : World) (hW : Below base w1 W) (hs : w.heap.size ≤ W.heap.size) => show Bs W W.heap.size la x.read.lit from (hok.r1.below (HW1.out.trans (hW.mono hbase)) (Nat.le_refl _)).more hs)
    have HLW := hide (fun (W : World) (hW : Below base w1 W) (hs : w.heap.size ≤ W.heap.size) => show Bs W W.heap.size lb x.write.lit from (hok.w1.below (HW1.out.trans (hW.mono hbase)) (Nat.le_refl _)).more hs)
    have HXB := hide hok.nameB
    have HONES := hide (ent_ones hok)
    obtain ⟨NM, HNM⟩ : ∃ s, Hid (strOfNums x.name = s) := ⟨_, hide rfl⟩
    have HNMS := hide (show NM.size ≤ maxLen ∧ strB NM = x.name by rw [← HNM.out, strOfNums_size]; exact ⟨by unfold maxLen; omega, strB_of hok.nameB⟩)
    obtain ⟨PR, HPR⟩ : ∃ s, Hid (printS x.read = s) := ⟨_, hide rfl⟩
    have HPRS := hide (show PR.size ≤ maxLen ∧ strB PR = printB x.read by rw [← HPR.out, printS_eq, strOfNums_size]; exact ⟨by have := printB_len hok.rWf; unfold maxLen; omega, strB_of (printB_bytes _)⟩)
    obtain ⟨PW, HPW⟩ : ∃ s, Hid (printS x.write = s) := ⟨_, hide rfl⟩
    have HPWS := hide (show PW.size ≤ maxLen ∧ strB PW = printB x.write by rw [← HPW.out, printS_eq, strOfNums_size]; exact ⟨by have := printB_len hok.wWf; unfold maxLen; omega, strB_of (printB_bytes _)⟩)
    have HX0 := hide (show (entC x la lb)[0]? = some (.string NM) by rw [← HNM.out]; exact ent_name)
    have HXR := hide (fun (j : Nat) (u : Value) (hu : (capCells x.read la)[j]? = some u) => show (entC x la lb)[1 + j]? = some u from ent_read hok j u hu)
    have HXW := hide (fun (j : Nat) (u : Value) (hu : (capCells x.write lb)[j]? = some u) => show (entC x la lb)[54 + j]? = some u from ent_write hok j u hu)
    obtain ⟨q4, HQ4⟩ : ∃ q, Hid (x.has = q) := ⟨_, hide rfl⟩
    have HXH := hide (show (entC x la lb)[107]? = some (.bool q4) by rw [← HQ4.out]; exact ent_has hok)
    have HPL := hide (packF_small key l HWFN.out (by rw [HN.out]; omega) i)
    have HWV := hide (fun (h : q4 = true) => valid_of_write (hiff.2.2.2.1 (by rw [HQ4.out]; exact h)).1)
    have HROWS := hide (show rowE key x = [x.name, printB x.read, if q4 then kidF key x.name (printB x.write) else []] by rw [← HQ4.out]; rfl)
    obtain ⟨rows, HROWE⟩ : ∃ r, Hid (rowE key x = r) := ⟨_, hide rfl⟩
    rw [HROWE.out] at HAT HRLN HRBY HROWS
    have HKID := hide (fun (W : World) (vp : Value) (h : Bs W W.heap.size vp (printB x.write)) (hT : Tab W W.heap.size) => kid_any c lit x.name (printB x.write) vp W HC.out hl1 HXB.out (by have := HNL.out; omega) h (printB_bytes _) (by have := printB_len HXOK.out.wWf; omega) hT)
    rw [HNM.out, HKEY.out] at HKID
    clear hok hrg hca hone hiff HX
    have HRG := hide (HRGw.out wr HB.out)
    obtain ⟨g7, HG7⟩ : ∃ k, Hid (wr.heap.size = k) := ⟨_, hide rfl⟩
    have hg7 : base ≤ g7 ∧ g7 ≤ wr.heap.size := by have := HG7.out; omega
    have HOG := hide (fun (k : Nat) (hk : u5.ownBlock = some k) => show k < g7 by have := (HO5.out.base_ k hk).2; have := HG7.out; omega)
    go_wp2_with (first
     | go_skip
     | (refine wpList_val_ rfl (exec_loadAll 45 _ rfl b (o + i * 108) rfl _ (entC x la lb) HRG.out Tryd.underlying45 rfl HSZ.out) ?_)
     | (refine wpList_alloc_blk rfl 45 rfl _ zero_ent ?_; intro w5 hb5 hw5 hs5; rw [HG7.out] at hb5; try rw [HG7.out]; have H7 := hide hb5; replace HO5 := hide (HO5.out.keptB hw5); replace H2 := hide (H2.out.below hw5 H2.out.lt); replace HB := hide (HB.out.trans (hw5.mono (Nat.le_trans hbw.2 HB.out.size))); have hz5 : base ≤ w5.heap.size := Nat.le_trans hzr hw5.size; clear hb5 hw5)
     | (refine wpList_st_putAll _ _ _ rfl rfl rfl H7.out (entC x la lb) rfl (by rw [ent_len HXOK.out, ent_len (w := w) (B := 0) ⟨EntD.none_wf, Bs.nil_ _ _, Bs.nil_ _ _⟩]) HSZ.out HONES.out ?_; intro wq hb6 hg6 hs6; replace H2 := hide (H2.out.grown hg6 (by intro e; injection e; omega)); replace HO5 := hide (HO5.out.pastE H7.out (by kernel_rfl) hg6); replace H7 := hide hb6; replace HB := hide (HB.out.grown hg6 hz5 (by intro k hk; injection hk; omega)); clear hb6 hg6)
     | (refine wpList_val_ rfl (exec_loadAll 28 _ rfl g7 1 rfl _ (capCells x.read la) (blk_range H7.out 1 _ HXR.out) Tryd.underlying28 rfl HSR.out) ?_))
    have hzp : base ≤ _ := Nat.le_trans hbw.2 HB.out.size
    refine (Print_any x.read la _ { toWf := HXOK.out.rWf, row := HLR.out _ HB.out (Nat.le_trans hbase hzp), small := by have := valid_litL HRD.out; omega } ((HT.out.below (HW1.out.trans (HB.out.mono hbase)) (Nat.le_refl _)).more (Nat.le_trans hbase hzp))).mono ?_
    rintro _ w8 ⟨rfl, hb8⟩
    rw [HPR.out]
    replace HO5 := hide (HO5.out.keptB hb8)
    replace H2 := hide (H2.out.below hb8 H2.out.lt)
    replace H7 := hide (H7.out.below hb8 H7.out.lt)
    replace HB := hide (HB.out.trans (hb8.mono (Nat.le_trans hbw.2 HB.out.size)))
    clear hb8
    rcases q4 with _ | _
    case false =>
     have H3V := hide (fun (W : World) => show Bs W W.heap.size (.slice none 0 0) (if false = true then kidF key x.name (printB x.write) else []) from Bs.nil_ _ _)
     replace H3V := hide (H3V.out w8)
     have HSNM := HNMS
     have HSPR := HPRS
     go_wp2_with (first
      | go_skip
      | (refine wpList_st_get 4 _ rfl 107 rfl rfl H7.out _ Tryd.underlying4 rfl _ HXH.out ?_)
      | (refine wpList_st_get 9 _ rfl 0 rfl rfl H7.out _ Tryd.underlying9 rfl _ HX0.out ?_)
      | (refine wpList_to_bytes rfl _ rfl NM rfl HSNM.out.1 ?_; intro vn wwvn hvvn hwvn; rw [HSNM.out.2] at hvvn; have HVvn := hide hvvn.reads; replace HO5 := hide (HO5.out.keptB hwvn); replace H2 := hide (H2.out.below hwvn H2.out.lt); replace H7 := hide (H7.out.below hwvn H7.out.lt); replace H3V := hide ((H3V.out.below hwvn (Nat.le_refl _)).more hwvn.size); replace HB := hide (HB.out.trans (hwvn.mono (Nat.le_trans hbw.2 HB.out.size))); clear hvvn hwvn)
      | (refine wpList_to_bytes rfl _ rfl PR rfl HSPR.out.1 ?_; intro vp wwvp hvvp hwvp; rw [HSPR.out.2] at hvvp; have HVvp := hide hvvp.reads; replace HO5 := hide (HO5.out.keptB hwvp); replace H2 := hide (H2.out.below hwvp H2.out.lt); replace H7 := hide (H7.out.below hwvp H7.out.lt); replace H3V := hide ((H3V.out.below hwvp (Nat.le_refl _)).more hwvp.size); replace HVvn := hide ((HVvn.out.below hwvp (Nat.le_refl _)).more hwvp.size); replace HB := hide (HB.out.trans (hwvp.mono (Nat.le_trans hbw.2 HB.out.size))); clear hvvp hwvp)
      | (refine wpList_rows3 rfl _ _ _ rfl vn vp (.slice none 0 0) rfl rfl rfl (cells_one_ (bs_one_ HVvn.out)) (cells_one_ (bs_one_ HVvp.out)) (cells_one_ (bs_one_ H3V.out)) ?_; intro wr3 hb3 hw3; have HROW := hide (rows_three hb3 ((HVvn.out.below hw3 (Nat.le_refl _)).more hw3.size) ((HVvp.out.below hw3 (Nat.le_refl _)).more hw3.size) ((H3V.out.below hw3 (Nat.le_refl _)).more hw3.size)); clear HVvn HVvp H3V; replace HO5 := hide (HO5.out.keptB hw3); replace H2 := hide (H2.out.below hw3 H2.out.lt); replace H7 := hide (H7.out.below hw3 H7.out.lt); replace HB := hide (HB.out.trans (hw3.mono (Nat.le_trans hbw.2 HB.out.size))); clear hb3 hw3))
     rw [← HROWS.out] at HROW
     have hzt : base ≤ _ := Nat.le_trans hbw.2 HB.out.size
     refine (Nets_any _ rows _ HROW.out HRBY.out (fun y hy => by have := HRLN.out.1 y hy; omega) (by rw [HROWS.out]; simp) ((HT.out.below (HW1.out.trans (HB.out.mono hbase)) (Nat.le_refl _)).more (Nat.le_trans hbase hzt))).mono ?_
     rintro e wn ⟨vq, rfl, hq, hbq⟩
     have HVQ := hide hq.reads
     replace HO5 := hide (HO5.out.keptB hbq)
     replace H2 := hide (H2.out.below hbq H2.out.lt)
     replace H7 := hide (H7.out.below hbq H7.out.lt)
     replace HB := hide (HB.out.trans (hbq.mono (Nat.le_trans hbw.2 HB.out.size)))
     clear hq hbq HROW
     go_wp2_with fail
     have hzt2 : base ≤ _ := Nat.le_trans hbw.2 HB.out.size
     refine (Net_any _ (netsF rows) _ HVQ.out (netsF_bytes_ HRBY.out) (by have := HRLN.out.2; omega) ((HT.out.below (HW1.out.trans (HB.out.mono hbase)) (Nat.le_refl _)).more (Nat.le_trans hbase hzt2))).mono ?_
     rintro e wm ⟨vm, rfl, hm, hbm⟩
     have HVM := hide hm.reads
     replace HO5 := hide (HO5.out.keptB hbm)
     replace H2 := hide (H2.out.below hbm H2.out.lt)
     replace H7 := hide (H7.out.below hbm H7.out.lt)
     replace HB := hide (HB.out.trans (hbm.mono (Nat.le_trans hbw.2 HB.out.size)))
     clear hm hbm HVQ
     have HAPB := hide (netF_bytes_ (netsF_bytes_ HRBY.out))
     have HAPL := hide (show (netF (netsF rows)).length ≤ 700 by have h1 := HRLN.out.2; have := netF_few (x := netsF rows) (by omega); omega)
     have hzt3 : base ≤ _ := Nat.le_trans hbw.2 HB.out.size
     have HOB := hide (fun (k : Nat) (hk : u5.ownBlock = some k) => show base ≤ k from (HO5.out.base_ k hk).1)
     go_wp2_with (first
      | (at_builtin; go_must (refine wpList_append_B rfl _ _ rfl base _ _ rfl HO5.out _ _ (netF (netsF rows)) rfl HVM.out HAPB.out (by have := HPL.out; have := HAPL.out; omega) hzt3 ?_); intro va wa hoa hga; replace H2 := hide (H2.out.grown hga (fun e => by have := HOB.out _ e.symm; have := hH2_b; omega)); replace HB := hide (HB.out.grown hga hzt3 (fun k hk => HOB.out k hk)); rw [← HAT.out] at hoa; have HO := hide hoa; clear hoa hga))
     go_roundw
     case measure => simp [intOf]; omega
     case rel => exact ⟨i + 1, by go_num, by omega, HO.out, HB.out⟩
    case true =>
     go_wp2_with (first
      | go_skip
      | (refine wpList_st_get 4 _ rfl 107 rfl rfl H7.out _ Tryd.underlying4 rfl _ HXH.out ?_)
      | (refine wpList_val_ rfl (exec_loadAll 28 _ rfl g7 54 rfl _ (capCells x.write lb) (blk_range H7.out 54 _ HXW.out) Tryd.underlying28 rfl HSW.out) ?_))
     have hzp2 : base ≤ _ := Nat.le_trans hbw.2 HB.out.size
     refine (Print_any x.write lb _ { toWf := HXOK.out.wWf, row := HLW.out _ HB.out (Nat.le_trans hbase hzp2), small := by have := valid_litL (HWV.out (by trivial)); omega } ((HT.out.below (HW1.out.trans (HB.out.mono hbase)) (Nat.le_refl _)).more (Nat.le_trans hbase hzp2))).mono ?_
     rintro _ w9 ⟨rfl, hb9⟩
     rw [HPW.out]
     replace HO5 := hide (HO5.out.keptB hb9)
     replace H2 := hide (H2.out.below hb9 H2.out.lt)
     replace H7 := hide (H7.out.below hb9 H7.out.lt)
     replace HB := hide (HB.out.trans (hb9.mono (Nat.le_trans hbw.2 HB.out.size)))
     clear hb9
     go_wp2_with (first
      | go_skip
      | (refine wpList_cap_all _ rfl rfl rfl H2.out ?_)
      | (refine wpList_st_get 9 _ rfl 0 rfl rfl H7.out _ Tryd.underlying9 rfl _ HX0.out ?_)
      | (refine wpList_to_bytes rfl _ rfl PW rfl HPWS.out.1 ?_; intro vpw wpw hvpw hwpw; rw [HPWS.out.2] at hvpw; have HVPW := hide hvpw.reads; replace HO5 := hide (HO5.out.keptB hwpw); replace H2 := hide (H2.out.below hwpw H2.out.lt); replace H7 := hide (H7.out.below hwpw H7.out.lt); replace HB := hide (HB.out.trans (hwpw.mono (Nat.le_trans hbw.2 HB.out.size))); clear hvpw hwpw))
     have hzp3 : base ≤ _ := Nat.le_trans hbw.2 HB.out.size
     refine (HKID.out _ vpw HVPW.out ((HT.out.below (HW1.out.trans (HB.out.mono hbase)) (Nat.le_refl _)).more (Nat.le_trans hbase hzp3))).mono ?_
     rintro _ w10 ⟨v10, rfl, ho10, hb10⟩
     have H3V := hide (show Bs w10 w10.heap.size v10 (if true = true then kidF key x.name (printB x.write) else []) from ho10.reads)
     replace HO5 := hide (HO5.out.keptB hb10)
     replace H2 := hide (H2.out.below hb10 H2.out.lt)
     replace H7 := hide (H7.out.below hb10 H7.out.lt)
     replace HB := hide (HB.out.trans (hb10.mono (Nat.le_trans hbw.2 HB.out.size)))
     clear ho10 hb10 HVPW
     have HSNM := HNMS
     have HSPR := HPRS
     go_wp2_with (first
      | go_skip
      | (refine wpList_st_get 4 _ rfl 107 rfl rfl H7.out _ Tryd.underlying4 rfl _ HXH.out ?_)
      | (refine wpList_st_get 9 _ rfl 0 rfl rfl H7.out _ Tryd.underlying9 rfl _ HX0.out ?_)
      | (refine wpList_to_bytes rfl _ rfl NM rfl HSNM.out.1 ?_; intro vn wwvn hvvn hwvn; rw [HSNM.out.2] at hvvn; have HVvn := hide hvvn.reads; replace HO5 := hide (HO5.out.keptB hwvn); replace H2 := hide (H2.out.below hwvn H2.out.lt); replace H7 := hide (H7.out.below hwvn H7.out.lt); replace H3V := hide ((H3V.out.below hwvn (Nat.le_refl _)).more hwvn.size); replace HB := hide (HB.out.trans (hwvn.mono (Nat.le_trans hbw.2 HB.out.size))); clear hvvn hwvn)
      | (refine wpList_to_bytes rfl _ rfl PR rfl HSPR.out.1 ?_; intro vp wwvp hvvp hwvp; rw [HSPR.out.2] at hvvp; have HVvp := hide hvvp.reads; replace HO5 := hide (HO5.out.keptB hwvp); replace H2 := hide (H2.out.below hwvp H2.out.lt); replace H7 := hide (H7.out.below hwvp H7.out.lt); replace H3V := hide ((H3V.out.below hwvp (Nat.le_refl _)).more hwvp.size); replace HVvn := hide ((HVvn.out.below hwvp (Nat.le_refl _)).more hwvp.size); replace HB := hide (HB.out.trans (hwvp.mono (Nat.le_trans hbw.2 HB.out.size))); clear hvvp hwvp)
      | (refine wpList_rows3 rfl _ _ _ rfl vn vp v10 rfl rfl rfl (cells_one_ (bs_one_ HVvn.out)) (cells_one_ (bs_one_ HVvp.out)) (cells_one_ (bs_one_ H3V.out)) ?_; intro wr3 hb3 hw3; have HROW := hide (rows_three hb3 ((HVvn.out.below hw3 (Nat.le_refl _)).more hw3.size) ((HVvp.out.below hw3 (Nat.le_refl _)).more hw3.size) ((H3V.out.below hw3 (Nat.le_refl _)).more hw3.size)); clear HVvn HVvp H3V; replace HO5 := hide (HO5.out.keptB hw3); replace H2 := hide (H2.out.below hw3 H2.out.lt); replace H7 := hide (H7.out.below hw3 H7.out.lt); replace HB := hide (HB.out.trans (hw3.mono (Nat.le_trans hbw.2 HB.out.size))); clear hb3 hw3))
     rw [← HROWS.out] at HROW
     have hzt : base ≤ _ := Nat.le_trans hbw.2 HB.out.size
     refine (Nets_any _ rows _ HROW.out HRBY.out (fun y hy => by have := HRLN.out.1 y hy; omega) (by rw [HROWS.out]; simp) ((HT.out.below (HW1.out.trans (HB.out.mono hbase)) (Nat.le_refl _)).more (Nat.le_trans hbase hzt))).mono ?_
     rintro e wn ⟨vq, rfl, hq, hbq⟩
     have HVQ := hide hq.reads
     replace HO5 := hide (HO5.out.keptB hbq)
     replace H2 := hide (H2.out.below hbq H2.out.lt)
     replace H7 := hide (H7.out.below hbq H7.out.lt)
     replace HB := hide (HB.out.trans (hbq.mono (Nat.le_trans hbw.2 HB.out.size)))
     clear hq hbq HROW
     go_wp2_with fail
     have hzt2 : base ≤ _ := Nat.le_trans hbw.2 HB.out.size
     refine (Net_any _ (netsF rows) _ HVQ.out (netsF_bytes_ HRBY.out) (by have := HRLN.out.2; omega) ((HT.out.below (HW1.out.trans (HB.out.mono hbase)) (Nat.le_refl _)).more (Nat.le_trans hbase hzt2))).mono ?_
     rintro e wm ⟨vm, rfl, hm, hbm⟩
     have HVM := hide hm.reads
     replace HO5 := hide (HO5.out.keptB hbm)
     replace H2 := hide (H2.out.below hbm H2.out.lt)
     replace H7 := hide (H7.out.below hbm H7.out.lt)
     replace HB := hide (HB.out.trans (hbm.mono (Nat.le_trans hbw.2 HB.out.size)))
     clear hm hbm HVQ
     have HAPB := hide (netF_bytes_ (netsF_bytes_ HRBY.out))
     have HAPL := hide (show (netF (netsF rows)).length ≤ 700 by have h1 := HRLN.out.2; have := netF_few (x := netsF rows) (by omega); omega)
     have hzt3 : base ≤ _ := Nat.le_trans hbw.2 HB.out.size
     have HOB := hide (fun (k : Nat) (hk : u5.ownBlock = some k) => show base ≤ k from (HO5.out.base_ k hk).1)
     go_wp2_with (first
      | (at_builtin; go_must (refine wpList_append_B rfl _ _ rfl base _ _ rfl HO5.out _ _ (netF (netsF rows)) rfl HVM.out HAPB.out (by have := HPL.out; have := HAPL.out; omega) hzt3 ?_); intro va wa hoa hga; replace H2 := hide (H2.out.grown hga (fun e => by have := HOB.out _ e.symm; have := hH2_b; omega)); replace HB := hide (HB.out.grown hga hzt3 (fun k hk => HOB.out k hk)); rw [← HAT.out] at hoa; have HO := hide hoa; clear hoa hga))
     go_roundw
     case measure => simp [intOf]; omega
     case rel => exact ⟨i + 1, by go_num, by omega, HO.out, HB.out⟩
  · obtain rfl : i = n := by omega
    have hlt' : ¬ (i : Int) < (i : Int) := by omega
    have HF := hide (show l.take i = l from List.take_of_length_le (by rw [HN.out]; exact Nat.le_refl _))
    rw [HF.out] at HO5
    go_wp2_with fail
    go_ret
    exact ⟨_, rfl, HO5.out.more hbase, HW1.out.trans (HB.out.mono hbase)⟩
theorem Pack_any (c : CapD) (lit v : Value) (l : List EntD) (w : World) (hc : c.Wf) (hlt : Bs w w.heap.size lit c.lit) (hv : EntsB w w.heap.size v l) (hlit : ∀ e ∈ l, e.read.lit.length ≤ 1000000 ∧ e.write.lit.length ≤ 1000000) (hn : l.length ≤ 1000000) (ht : Tab w w.heap.size) :
 Calls Tryd.prog 14 #[capV c lit, v] w fun r w' => ∃ v', r = .returned (.tuple #[v', .int .i64 (packE c l)]) ∧ RowB w' w.heap.size v' (packR c l) ∧ Below w.heap.size w w' := by
 have HC := hide hc
 have hl1 := bs_one_ hlt
 have HVA := hide (fun (w' : World) => Valid_any c lit w' (capV_of hc.keyL hc.fpL hlt))
 have HDR := hide (fun (w' : World) (h : Below w.heap.size w w') => dright_any v l w' ((hv.below h (Nat.le_refl _)).more h.size) hlit hn ((ht.below h (Nat.le_refl _)).more h.size))
 have HPK := hide (fun (w' : World) (h : Below w.heap.size w w') (hr : rightB l = true) => pack_any c lit v l w' hc hl1 ((hv.below h (Nat.le_refl _)).more h.size) ((rightB_iff l).1 hr).1 ((rightB_iff l).1 hr).2.2 ((ht.below h (Nat.le_refl _)).more h.size))
 obtain ⟨va, HVAL⟩ : ∃ q, Hid (decide c.Valid = q) := ⟨_, hide rfl⟩
 obtain ⟨rl, HRL⟩ : ∃ q, Hid (rightB l = q) := ⟨_, hide rfl⟩
 have HRES := hide (show packE c l = (if (va && (c.kind == 7)) then (if rl then 0 else 1) else 10) ∧ packR c l = (if ((va && (c.kind == 7)) && rl) then packF c.key l else []) by unfold packE packR packOk; rw [HVAL.out, HRL.out]; exact ⟨rfl, rfl⟩)
 rw [HRES.out.1, HRES.out.2]
 rw [HVAL.out] at HVA
 rw [HRL.out] at HDR HPK
 obtain ⟨kd, HKD⟩ : ∃ k, Hid (c.kind = k) := ⟨_, hide rfl⟩
 have HX0 := hide (show capInt c 0 = some kd by rw [← HKD.out]; rfl)
 rw [HKD.out]
 obtain ⟨q7, HQ7⟩ : ∃ q, Hid ((kd == 7) = q) := ⟨_, hide rfl⟩
 rw [HQ7.out]
 obtain ⟨PF, HPF⟩ : ∃ k, Hid (packF c.key l = k) := ⟨_, hide rfl⟩
 rw [HPF.out] at HPK ⊢
 clear hc hlt hv hlit ht HVAL HRL HRES HKD HPF
 obtain ⟨g2, HG2⟩ : ∃ k, Hid (w.heap.size = k) := ⟨_, hide rfl⟩
 have hg2 : w.heap.size ≤ g2 ∧ g2 ≤ w.heap.size := by have := HG2.out; omega
 go_enter Tryd.func14, Tryd.ntmps14
 go_wp2_with (first
  | (refine wpList_cap_new (c := c) (lit := lit) _ rfl rfl rfl HC.out.keyL HC.out.fpL hl1 ?_; intro w1 hb1 hw1 hs1; rw [HG2.out] at hb1; try rw [HG2.out]; have H2 := hide hb1; have HB := hide hw1; clear hb1 hw1 hs1)
  | (refine wpList_cap_all _ rfl rfl rfl H2.out ?_))
 refine (HVA.out _).mono ?_
 rintro _ w2 ⟨rfl, hb2⟩
 replace H2 := hide (H2.out.below hb2 H2.out.lt)
 replace HB := hide (HB.out.trans (hb2.mono HB.out.size))
 clear hb2 HVA
 rcases va with _ | _
 case false =>
  go_wp2_with go_skip
  go_ret2
  exact ⟨_, rfl, RowB.nil_ _ _, HB.out⟩
 rcases q7 with _ | _
 case false =>
  have e1 : (kd != 7) = true := by have := HQ7.out; simpa using this
  go_wp2_with (first
   | go_skip
   | (refine wpList_cap_int _ rfl 0 rfl rfl H2.out kd HX0.out ?_))
  go_ret2
  exact ⟨_, rfl, RowB.nil_ _ _, HB.out⟩
 obtain rfl : kd = 7 := by have := HQ7.out; simpa using this
 go_wp2_with (first
  | go_skip
  | (refine wpList_cap_int _ rfl 0 rfl rfl H2.out 7 HX0.out ?_))
 refine (HDR.out _ HB.out).mono ?_
 rintro _ w3 ⟨rfl, hb3⟩
 replace H2 := hide (H2.out.below hb3 H2.out.lt)
 replace HB := hide (HB.out.trans (hb3.mono HB.out.size))
 clear hb3 HDR
 rcases rl with _ | _
 case false =>
  go_wp2_with go_skip
  go_ret2
  exact ⟨_, rfl, RowB.nil_ _ _, HB.out⟩
 go_wp2_with (first
  | go_skip
  | (refine wpList_cap_all _ rfl rfl rfl H2.out ?_))
 refine (HPK.out _ HB.out (by trivial)).mono ?_
 rintro _ w4 ⟨v4, rfl, ho4, hb4⟩
 have HO := hide (ho4.more HB.out.size)
 replace HB := hide (HB.out.trans (hb4.mono HB.out.size))
 clear ho4 hb4
 go_wp2_with fail
 go_ret2
 exact ⟨_, rfl, HO.out, HB.out⟩
end Go.Proofs.YthdjgebbjogmiaaDoor
