/- The document's PackDir. Condition: literals of at most a million bytes.
The document's Dir: the same as a directory's. No condition. -/
import Derived.Test.YthdjgebbjogmiaaGreatDoorJoin16
import Derived.Test.YthdjgebbjogmiaaGreatDoorJoin25
import Derived.Test.YthdjgebbjogmiaaGreatDoorJoin20
import Derived.Test.YthdjgebbjogmiaaGreatDoorJoin17
import Derived.Test.YthdjgebbjogmiaaGreatDoorJoin4
import Derived.Test.YthdjgebbjogmiaaGreatDoorPrintRef
import Derived.Test.YthdjgebbjogmiaaGreatDoorDirRightR
import Derived.Test.YthdjgebbjogmiaaGreatDoorCapRO
set_option linter.unusedVariables false
set_option linter.unusedSimpArgs false
namespace Go.Proofs.YthdjgebbjogmiaaGreatDoor
open Go Go.RowKit
set_option linter.unusedVariables false
set_option linter.unusedSimpArgs false
set_option maxRecDepth 100000
set_option maxHeartbeats 16000000
theorem PackDir_ref (c : CapD) (lit v : Value) (l : List EntD) (w : World) (hc : c.Wf) (hlt : Bs w w.heap.size lit c.lit) (hv : EntsB w w.heap.size v l) (hlit : ∀ e ∈ l, e.read.lit.length ≤ 1000000 ∧ e.write.lit.length ≤ 1000000) (hn : l.length ≤ 1000000) :
 Calls Tryz.prog 6 #[capV c lit, v] w fun r w' => ∃ v', r = .returned (.tuple #[v', .int .i64 (packE c l)]) ∧ RowB w' w.heap.size v' (packR c l) ∧ Below w.heap.size w w' := by
 have HC := hide hc;have hl1 := bs_one_ hlt;have HVA := hide (fun (w' : World) => Valid_ref c lit w' (capV_of hc.keyL hc.fpL hlt));have HDR := hide (fun (w' : World) (h : Below w.heap.size w w') => drightR_any v l w' ((hv.below h (Nat.le_refl _)).more h.size) hlit hn);obtain ⟨va, HVAL⟩ : ∃ q, Hid (decide c.Valid = q) := ⟨_, hide rfl⟩;obtain ⟨rl, HRL⟩ : ∃ q, Hid (rightB l = q) := ⟨_, hide rfl⟩;obtain ⟨key, HKEY⟩ : ∃ k, Hid (c.key = k) := ⟨_, hide rfl⟩;have HRES := hide (show packE c l = (if (va && (c.kind == 7)) then (if rl then 0 else 1) else 10) ∧ packR c l = (if ((va && (c.kind == 7)) && rl) then packF key l else []) by unfold packE packR packOk; rw [HVAL.out, HRL.out, HKEY.out]; exact ⟨rfl, rfl⟩);rw [HRES.out.1, HRES.out.2];rw [HVAL.out] at HVA;rw [HRL.out] at HDR;obtain ⟨kd, HKD⟩ : ∃ k, Hid (c.kind = k) := ⟨_, hide rfl⟩;have HX0 := hide (show capInt c 0 = some kd by rw [← HKD.out]; rfl);rw [HKD.out];obtain ⟨q7, HQ7⟩ : ∃ q, Hid ((kd == 7) = q) := ⟨_, hide rfl⟩;rw [HQ7.out];obtain ⟨A, k, rfl, h1, h2, h3⟩ := hv;unfold maxLen at h2;have HA := hide h3
 have HEOK := hide (fun (e : EntD) (he : e ∈ l) => show e.Wf by
  obtain ⟨j, hj, rfl⟩ := List.getElem_of_mem he;obtain ⟨b, o, _, _, hca⟩ := h3 (by omega);obtain ⟨_, _, hok, _⟩ := hca j hj
  exact hok.toWf)
 obtain ⟨n, HN⟩ : ∃ k, Hid (l.length = k) := ⟨_, hide rfl⟩;rw [HN.out] at h1 hn HDR ⊢;obtain ⟨g2, HG2⟩ : ∃ k, Hid (w.heap.size = k) := ⟨_, hide rfl⟩
 have hg2 : w.heap.size ≤ g2 ∧ g2 ≤ w.heap.size := by have := HG2.out; omega
 clear hc hlt hlit HVAL HRES HKD h3
 go_enter Tryz.func6, Tryz.ntmps6
 go_wp2_with (first
  | (refine wpList_cap_new (c := c) (lit := lit) _ rfl rfl rfl HC.out.keyL HC.out.fpL hl1 ?_; intro w1 hb1 hw1 hs1; rw [HG2.out] at hb1; try rw [HG2.out]; have H2 := hide hb1; have HB := hide hw1; clear hb1 hw1 hs1)
  | (refine wpList_cap_all _ rfl rfl rfl H2.out ?_))
 refine (HVA.out _).mono ?_;rintro _ w2 ⟨rfl, hb2⟩;replace H2 := hide (H2.out.below hb2 H2.out.lt);replace HB := hide (HB.out.trans (hb2.mono HB.out.size));clear hb2 HVA
 rcases va with _ | _
 case false =>
  go_wp2_with go_skip
  go_ret2
  exact ⟨_, rfl, RowB.nil_ _ _, HB.out⟩
 rcases q7 with _ | _
 case false =>
  have e1 : (kd != 7) = true := by have := HQ7.out; simpa using this
  go_wp2_with (first
   | go_skip
   | (refine wpList_cap_int _ rfl 0 rfl rfl H2.out kd HX0.out ?_))
  go_ret2
  exact ⟨_, rfl, RowB.nil_ _ _, HB.out⟩
 obtain rfl : kd = 7 := by have := HQ7.out; simpa using this
 go_wp2_with (first
  | go_skip
  | (refine wpList_cap_int _ rfl 0 rfl rfl H2.out 7 HX0.out ?_))
 refine (HDR.out _ HB.out).mono ?_;rintro _ w1 ⟨rfl, hb3⟩;replace H2 := hide (H2.out.below hb3 H2.out.lt);have HW1 := hide (HB.out.trans (hb3.mono HB.out.size));clear hb3 HDR HB
 rcases rl with _ | _
 case false =>
  go_wp2_with go_skip
  go_ret2
  exact ⟨_, rfl, RowB.nil_ _ _, HW1.out⟩
 have hr := (rightB_iff l).1 HRL.out;have HRT := hide hr.1;have HWFN := hide (show ∀ e ∈ l, e.Wf ∧ e.name.length ≤ 64 from fun e he => ⟨HEOK.out e he, ((oneB_iff e).1 (hr.1 e he)).1.2⟩)
 replace hn : n ≤ 16 := by have := hr.2.2; have := HN.out; omega
 clear hr HRL;obtain ⟨base, HBASE⟩ : ∃ k, Hid (w1.heap.size = k) := ⟨_, hide rfl⟩
 have hbw : w1.heap.size ≤ base ∧ base ≤ w1.heap.size := by have := HBASE.out; omega
 have hbase : w.heap.size ≤ base := by have := HBASE.out; have := HW1.out.size; omega
 have hH2_b : g2 < base := by have := HBASE.out; have := H2.out.lt; omega
 have HBe := hide (Below.refl base w1)
 go_wp2_with fail
 go_loopw [6, 26] (fun v6 v26 wr => ∃ (i : Nat), v26 = .int .i64 (i : Int) ∧ i ≤ n ∧ RowB wr base v6 (packF key (l.take i)) ∧ Below base w1 wr) (fun _ v26 _ => n - (intOf v26).toNat)
 case atStart => exact ⟨0, by go_num, by omega, RowB.nil_ _ _, HBe.out⟩
 case round =>
  obtain ⟨i, rfl, hin, ho5, hb⟩ := hrel;have HO5 := hide ho5;have HB := hide hb;have hzr : base ≤ wr.heap.size := Nat.le_trans hbw.2 hb.size;replace H2 := hide (H2.out.below hb hH2_b);clear ho5 hb HBe
  by_cases hlt : i < n
  · skip
    have hlt' : (i : Int) < (n : Int) := by omega
    obtain ⟨b, o, rfl, hbb, hca⟩ := HA.out (by rw [HN.out]; omega);obtain ⟨la, lb, hok, hrg⟩ := hca i (by rw [HN.out]; exact hlt);have HAT := hide (packF_take key l i (by rw [HN.out]; exact hlt));have hone := HRT.out _ (List.getElem_mem (show i < l.length by rw [HN.out]; exact hlt));obtain ⟨x, HX⟩ : ∃ x, Hid (l[i]'(by rw [HN.out]; exact hlt) = x) := ⟨_, hide rfl⟩;rw [HX.out] at hok hrg HAT hone;have HXOK := hide hok;have hiff := (oneB_iff x).1 hone;have HRD := hide hiff.2.1;have HNL := hide hiff.1;have HRLN := hide (rowE_len key hok.toWf hiff.1.2);have HRBY := hide (rowE_bytes key hok.nameB);have HSZ := hide (show (Tryz.prog.info? 50).map (·.size) = some (entC x la lb).length by rw [ent_len hok]; exact size_ent);have HSR := hide (show (Tryz.prog.info? 28).map (·.size) = some (capCells x.read la).length by rw [cc_len la hok.rWf.keyL hok.rWf.fpL]; exact size_cap);have HSW := hide (show (Tryz.prog.info? 28).map (·.size) = some (capCells x.write lb).length by rw [cc_len lb hok.wWf.keyL hok.wWf.fpL]; exact size_cap);have HRGw := hide (fun (W : World) (hW : Below base w1 W) (j : Nat) (u : Value) (hu : (entC x la lb)[j]? = some u) => show W.cell? ⟨b, o + i * 108 + j, none⟩ = some u from ((HW1.out.trans (hW.mono hbase)).cell (p := ⟨b, o + i * 108 + j, none⟩) hbb).trans (hrg j u hu))
    have HLR := hide (fun (W : World) (hW : Below base w1 W) (hs : w.heap.size ≤ W.heap.size) => show Bs W W.heap.size la x.read.lit from (hok.r1.below (HW1.out.trans (hW.mono hbase)) (Nat.le_refl _)).more hs);have HLW := hide (fun (W : World) (hW : Below base w1 W) (hs : w.heap.size ≤ W.heap.size) => show Bs W W.heap.size lb x.write.lit from (hok.w1.below (HW1.out.trans (hW.mono hbase)) (Nat.le_refl _)).more hs);have HXB := hide hok.nameB;have HONES := hide (ent_ones hok);obtain ⟨NM, HNM⟩ : ∃ s, Hid (strOfNums x.name = s) := ⟨_, hide rfl⟩;have HNMS := hide (show NM.size ≤ maxLen ∧ strB NM = x.name by rw [← HNM.out, strOfNums_size]; exact ⟨by unfold maxLen; omega, strB_of hok.nameB⟩);obtain ⟨PR, HPR⟩ : ∃ s, Hid (printS x.read = s) := ⟨_, hide rfl⟩;have HPRS := hide (show PR.size ≤ maxLen ∧ strB PR = printB x.read by rw [← HPR.out, printS_eq, strOfNums_size]; exact ⟨by have := printB_len hok.rWf; unfold maxLen; omega, strB_of (printB_bytes _)⟩);obtain ⟨PW, HPW⟩ : ∃ s, Hid (printS x.write = s) := ⟨_, hide rfl⟩;have HPWS := hide (show PW.size ≤ maxLen ∧ strB PW = printB x.write by rw [← HPW.out, printS_eq, strOfNums_size]; exact ⟨by have := printB_len hok.wWf; unfold maxLen; omega, strB_of (printB_bytes _)⟩);have HX0e := hide (show (entC x la lb)[0]? = some (.string NM) by rw [← HNM.out]; exact ent_name);have HXR := hide (fun (j : Nat) (u : Value) (hu : (capCells x.read la)[j]? = some u) => show (entC x la lb)[1 + j]? = some u from ent_read hok j u hu)
    have HXW := hide (fun (j : Nat) (u : Value) (hu : (capCells x.write lb)[j]? = some u) => show (entC x la lb)[54 + j]? = some u from ent_write hok j u hu);obtain ⟨q4, HQ4⟩ : ∃ q, Hid (x.has = q) := ⟨_, hide rfl⟩;have HXH := hide (show (entC x la lb)[107]? = some (.bool q4) by rw [← HQ4.out]; exact ent_has hok);have HPL := hide (packF_small key l HWFN.out (by rw [HN.out]; omega) i);have HWV := hide (fun (h : q4 = true) => valid_of_write (hiff.2.2.2.1 (by rw [HQ4.out]; exact h)).1);have HROWS := hide (show rowE key x = [x.name, printB x.read, if q4 then kidF key x.name (printB x.write) else []] by rw [← HQ4.out]; rfl);obtain ⟨rows, HROWE⟩ : ∃ r, Hid (rowE key x = r) := ⟨_, hide rfl⟩;rw [HROWE.out] at HAT HRLN HRBY HROWS;have HKID := hide (fun (W : World) (vp : Value) (h : Bs W W.heap.size vp (printB x.write)) => kid_ref c lit x.name (printB x.write) vp W HC.out hl1 HXB.out (by have := HNL.out; omega) h (printB_bytes _) (by have := printB_len HXOK.out.wWf; omega));rw [HNM.out, HKEY.out] at HKID;clear hok hrg hca hone hiff HX;have HRR := hide (fun (j : Nat) (u : Value) (hu : (capCells x.read la)[j]? = some u) => show wr.cell? ⟨b, o + i * 108 + 1 + j, none⟩ = some u by rw [Nat.add_assoc]; exact HRGw.out wr HB.out (1 + j) u (HXR.out j u hu))
    go_wp2_with (first
     | go_skip
     | (refine wpList_val_ rfl (exec_loadAll 28 _ rfl b (o + i * 108 + 1) rfl _ (capCells x.read la) HRR.out Tryz.underlying28 rfl HSR.out) ?_))
    refine (Print_ref x.read la _ { toWf := HXOK.out.rWf, row := HLR.out _ HB.out (Nat.le_trans hbase hzr), small := by have := valid_litL HRD.out; omega }).mono ?_;rintro _ w8 ⟨rfl, hb8⟩;rw [HPR.out];replace HO5 := hide (HO5.out.keptB hb8);replace H2 := hide (H2.out.below hb8 H2.out.lt);replace HB := hide (HB.out.trans (hb8.mono (Nat.le_trans hbw.2 HB.out.size)));clear hb8;have HHC := hide (show w8.cell? ⟨b, o + i * 108 + 107, none⟩ = some (.bool q4) from HRGw.out w8 HB.out 107 _ HXH.out);have HNC := hide (show w8.cell? ⟨b, o + i * 108, none⟩ = some (.string NM) by have := HRGw.out w8 HB.out 0 _ HX0e.out; rwa [Nat.add_zero] at this);have HRW := hide (fun (j : Nat) (u : Value) (hu : (capCells x.write lb)[j]? = some u) => show w8.cell? ⟨b, o + i * 108 + 54 + j, none⟩ = some u by rw [Nat.add_assoc]; exact HRGw.out w8 HB.out (54 + j) u (HXW.out j u hu))
    rcases q4 with _ | _
    case false =>
     have H3V := hide (fun (W : World) => show Bs W W.heap.size (.slice none 0 0) (if false = true then kidF key x.name (printB x.write) else []) from Bs.nil_ _ _);replace H3V := hide (H3V.out w8);have HSNM := HNMS;have HSPR := HPRS
     go_wp2_with (first
      | go_skip
      | (refine wpList_val_ rfl (exec_load_one _ _ rfl b (o + i * 108 + 107) rfl _ Tryz.underlying4 rfl _ HHC.out) ?_)
      | (refine wpList_val_ rfl (exec_load_one _ _ rfl b (o + i * 108) rfl _ Tryz.underlying9 rfl _ HNC.out) ?_)
      | (refine wpList_to_bytes rfl _ rfl NM rfl HSNM.out.1 ?_; intro vn wwvn hvvn hwvn; rw [HSNM.out.2] at hvvn; have HVvn := hide hvvn.reads; replace HO5 := hide (HO5.out.keptB hwvn); replace H2 := hide (H2.out.below hwvn H2.out.lt); replace H3V := hide ((H3V.out.below hwvn (Nat.le_refl _)).more hwvn.size); replace HB := hide (HB.out.trans (hwvn.mono (Nat.le_trans hbw.2 HB.out.size))); clear hvvn hwvn)
      | (refine wpList_to_bytes rfl _ rfl PR rfl HSPR.out.1 ?_; intro vp wwvp hvvp hwvp; rw [HSPR.out.2] at hvvp; have HVvp := hide hvvp.reads; replace HO5 := hide (HO5.out.keptB hwvp); replace H2 := hide (H2.out.below hwvp H2.out.lt); replace H3V := hide ((H3V.out.below hwvp (Nat.le_refl _)).more hwvp.size); replace HVvn := hide ((HVvn.out.below hwvp (Nat.le_refl _)).more hwvp.size); replace HB := hide (HB.out.trans (hwvp.mono (Nat.le_trans hbw.2 HB.out.size))); clear hvvp hwvp)
      | (refine wpList_rows3 rfl _ _ _ rfl vn vp (.slice none 0 0) rfl rfl rfl (cells_one_ (bs_one_ HVvn.out)) (cells_one_ (bs_one_ HVvp.out)) (cells_one_ (bs_one_ H3V.out)) ?_; intro wr3 hb3 hw3; have HROW := hide (rows_three hb3 ((HVvn.out.below hw3 (Nat.le_refl _)).more hw3.size) ((HVvp.out.below hw3 (Nat.le_refl _)).more hw3.size) ((H3V.out.below hw3 (Nat.le_refl _)).more hw3.size)); clear HVvn HVvp H3V; replace HO5 := hide (HO5.out.keptB hw3); replace H2 := hide (H2.out.below hw3 H2.out.lt); replace HB := hide (HB.out.trans (hw3.mono (Nat.le_trans hbw.2 HB.out.size))); clear hb3 hw3))
     rw [← HROWS.out] at HROW;have hzt : base ≤ _ := Nat.le_trans hbw.2 HB.out.size;refine (Nets_ref _ rows _ HROW.out HRBY.out (fun y hy => by have := HRLN.out.1 y hy; omega) (by rw [HROWS.out]; simp)).mono ?_;rintro e wn ⟨vq, rfl, hq, hbq⟩;have HVQ := hide hq.reads;replace HO5 := hide (HO5.out.keptB hbq);replace H2 := hide (H2.out.below hbq H2.out.lt);replace HB := hide (HB.out.trans (hbq.mono (Nat.le_trans hbw.2 HB.out.size)));clear hq hbq HROW
     go_wp2_with fail
     have hzt2 : base ≤ _ := Nat.le_trans hbw.2 HB.out.size;refine (Net_ref _ (netsF rows) _ HVQ.out (netsF_bytes_ HRBY.out) (by have := HRLN.out.2; omega)).mono ?_;rintro e wm ⟨vm, rfl, hm, hbm⟩;have HVM := hide hm.reads;replace HO5 := hide (HO5.out.keptB hbm);replace H2 := hide (H2.out.below hbm H2.out.lt);replace HB := hide (HB.out.trans (hbm.mono (Nat.le_trans hbw.2 HB.out.size)));clear hm hbm HVQ;have HAPB := hide (netF_bytes_ (netsF_bytes_ HRBY.out));have HAPL := hide (show (netF (netsF rows)).length ≤ 700 by have h1 := HRLN.out.2; have := netF_few (x := netsF rows) (by omega); omega);have hzt3 : base ≤ _ := Nat.le_trans hbw.2 HB.out.size;have HOB := hide (fun (k : Nat) (hk : u6.ownBlock = some k) => show base ≤ k from (HO5.out.base_ k hk).1)
     go_wp2_with (first
      | (at_builtin; go_must (refine wpList_append_B rfl _ _ rfl base _ _ rfl HO5.out _ _ (netF (netsF rows)) rfl HVM.out HAPB.out (by have := HPL.out; have := HAPL.out; omega) hzt3 ?_); intro va wa hoa hga; replace H2 := hide (H2.out.grown hga (fun e => by have := HOB.out _ e.symm; have := hH2_b; omega)); replace HB := hide (HB.out.grown hga hzt3 (fun k hk => HOB.out k hk)); rw [← HAT.out] at hoa; have HO := hide hoa; clear hoa hga))
     go_roundw
     case measure => simp [intOf]; omega
     case rel => exact ⟨i + 1, by go_num, by omega, HO.out, HB.out⟩
    case true =>
     go_wp2_with (first
      | go_skip
      | (refine wpList_val_ rfl (exec_load_one _ _ rfl b (o + i * 108 + 107) rfl _ Tryz.underlying4 rfl _ HHC.out) ?_)
      | (refine wpList_val_ rfl (exec_loadAll 28 _ rfl b (o + i * 108 + 54) rfl _ (capCells x.write lb) HRW.out Tryz.underlying28 rfl HSW.out) ?_))
     have hzp2 : base ≤ w8.heap.size := Nat.le_trans hbw.2 HB.out.size;refine (Print_ref x.write lb _ { toWf := HXOK.out.wWf, row := HLW.out _ HB.out (Nat.le_trans hbase hzp2), small := by have := valid_litL (HWV.out (by trivial)); omega }).mono ?_;rintro _ w9 ⟨rfl, hb9⟩;rw [HPW.out];replace HO5 := hide (HO5.out.keptB hb9);replace H2 := hide (H2.out.below hb9 H2.out.lt);replace HB := hide (HB.out.trans (hb9.mono (Nat.le_trans hbw.2 HB.out.size)));clear hb9 HNC;have HNC := hide (show w9.cell? ⟨b, o + i * 108, none⟩ = some (.string NM) by have := HRGw.out w9 HB.out 0 _ HX0e.out; rwa [Nat.add_zero] at this);have hg2W : g2 < w9.heap.size := H2.out.lt;have hbW : b < w9.heap.size := Nat.lt_of_lt_of_le hbb (Nat.le_trans hbase (Nat.le_trans hbw.2 HB.out.size));have HCC := hide (show w9.rangeAt g2 0 (capCells c lit) from blk_range H2.out.blk 0 _ (fun j u hu => by rw [Nat.zero_add]; exact hu));have HSC := hide (show (Tryz.prog.info? 28).map (·.size) = some (capCells c lit).length by rw [cc_len lit HC.out.keyL HC.out.fpL]; exact size_cap)
     go_upto_region 13 with fail
     try simp only [s_]
     refine wp_region_held_drew (S := fun w' => Below w9.heap.size w9 w') (by kernel_rfl) (Below.refl _ _).drew (fun hHeld => ?_);refine take_f 52 (i := 0) (v := .agg (capCells c lit).toArray) rfl (fun w' hS => exec_loadAll _ _ rfl g2 0 rfl _ _ (fun j u hu => (hS.cell (p := ⟨g2, 0 + j, none⟩) hg2W).trans (HCC.out j u hu)) Tryz.underlying28 rfl HSC.out) hHeld ?_
     try simp only [s_]
     refine take_f 53 (i := 1) (v := .slice (some ⟨b, o, none⟩) n k) rfl (fun w' hS => exec_move _ rfl (.slice (some ⟨b, o, none⟩) n k) rfl) hHeld ?_
     try simp only [s_]
     refine take_f 54 (i := 2) (v := .int .i64 ((i : Int))) rfl (fun w' hS => exec_move _ rfl (.int .i64 ((i : Int))) rfl) hHeld ?_
     try simp only [s_]
     refine take_f 55 (i := 3) (v := .pointer (some ⟨b, o + i * 108, none⟩)) rfl (fun w' hS => exec_indexG _ _ _ rfl _ n k b o 108 i rfl rfl rfl (by omega) (by kernel_rfl) _ (by omega)) hHeld ?_
     try simp only [s_]
     refine take_f 56 (i := 4) (v := .pointer (some ⟨b, o + i * 108, none⟩)) rfl (fun w' hS => exec_fieldG _ _ 0 0 rfl b (o + i * 108) rfl (by kernel_rfl) _ (by first | rfl | omega)) hHeld ?_
     try simp only [s_]
     refine take_f 57 (i := 5) (v := .string NM) rfl (fun w' hS => exec_load_one _ _ rfl b (o + i * 108) rfl _ Tryz.underlying9 rfl _ ((hS.cell (p := ⟨b, o + i * 108, none⟩) hbW).trans HNC.out)) hHeld ?_
     try simp only [s_]
     refine take_f 58 (i := 6) (v := .string PW) rfl (fun w' hS => exec_move _ rfl (.string PW) rfl) hHeld ?_
     try simp only [s_]
     refine wpAnyH_ready (rs := [7]) (by kernel_rfl) (by simp) (AllReadyH.cons rfl (fun K hK => ?_) AllReadyH.nil);rw [if_pos (by kernel_rfl)];refine wp_to_bytesD 59 rfl _ rfl PW rfl HPWS.out.1 ?_;intro v59 w59 hv59 hb59;rw [HPWS.out.2] at hv59;have HV59 := hide hv59.reads;have HX := hide (hHeld.trans (hb59.mono hHeld.size));clear hv59 hb59;refine hK.out _ _ HX.out (fun hHeld => ?_);clear HX hK K
     try simp only [s_]
     refine wpAnyH_ready (rs := [8]) (by kernel_rfl) (by simp) (AllReadyH.cons rfl (fun K hK => ?_) AllReadyH.nil);rw [if_pos (by kernel_rfl)]
     try go_simp
     refine (HKID.out _ v59 HV59.out).mono ?_;rintro e w60 ⟨v60, rfl, ho60, hb60⟩;have H3V := hide (show Bs w60 w60.heap.size v60 (if true = true then kidF key x.name (printB x.write) else []) from ho60.reads);have HX := hide (hHeld.trans (hb60.mono hHeld.size));clear ho60 hb60;refine hK.out _ _ HX.out (fun hHeld => ?_);clear HX hK K
     try simp only [s_]
     refine take_f 10 (i := 9) (v := v60) rfl (fun w' hS => exec_assign _ rfl (v60) rfl) hHeld ?_
     try simp only [s_]
     refine wpAnyH_done (by kernel_rfl) ?_ _;have hHD := hHeld;replace HO5 := hide (HO5.out.keptB hHD);replace H2 := hide (H2.out.below hHD H2.out.lt);replace HB := hide (HB.out.trans (hHD.mono (Nat.le_trans hbw.2 HB.out.size)));clear hHD hHeld HNC;have HNC := hide (show w60.cell? ⟨b, o + i * 108, none⟩ = some (.string NM) by have := HRGw.out w60 HB.out 0 _ HX0e.out; rwa [Nat.add_zero] at this);have HSNM := HNMS;have HSPR := HPRS
     go_wp2_with (first
      | go_skip
      | (refine wpList_val_ rfl (exec_load_one _ _ rfl b (o + i * 108) rfl _ Tryz.underlying9 rfl _ HNC.out) ?_)
      | (refine wpList_to_bytes rfl _ rfl NM rfl HSNM.out.1 ?_; intro vn wwvn hvvn hwvn; rw [HSNM.out.2] at hvvn; have HVvn := hide hvvn.reads; replace HO5 := hide (HO5.out.keptB hwvn); replace H2 := hide (H2.out.below hwvn H2.out.lt); replace H3V := hide ((H3V.out.below hwvn (Nat.le_refl _)).more hwvn.size); replace HB := hide (HB.out.trans (hwvn.mono (Nat.le_trans hbw.2 HB.out.size))); clear hvvn hwvn)
      | (refine wpList_to_bytes rfl _ rfl PR rfl HSPR.out.1 ?_; intro vp wwvp hvvp hwvp; rw [HSPR.out.2] at hvvp; have HVvp := hide hvvp.reads; replace HO5 := hide (HO5.out.keptB hwvp); replace H2 := hide (H2.out.below hwvp H2.out.lt); replace H3V := hide ((H3V.out.below hwvp (Nat.le_refl _)).more hwvp.size); replace HVvn := hide ((HVvn.out.below hwvp (Nat.le_refl _)).more hwvp.size); replace HB := hide (HB.out.trans (hwvp.mono (Nat.le_trans hbw.2 HB.out.size))); clear hvvp hwvp)
      | (refine wpList_rows3 rfl _ _ _ rfl vn vp v60 rfl rfl rfl (cells_one_ (bs_one_ HVvn.out)) (cells_one_ (bs_one_ HVvp.out)) (cells_one_ (bs_one_ H3V.out)) ?_; intro wr3 hb3 hw3; have HROW := hide (rows_three hb3 ((HVvn.out.below hw3 (Nat.le_refl _)).more hw3.size) ((HVvp.out.below hw3 (Nat.le_refl _)).more hw3.size) ((H3V.out.below hw3 (Nat.le_refl _)).more hw3.size)); clear HVvn HVvp H3V; replace HO5 := hide (HO5.out.keptB hw3); replace H2 := hide (H2.out.below hw3 H2.out.lt); replace HB := hide (HB.out.trans (hw3.mono (Nat.le_trans hbw.2 HB.out.size))); clear hb3 hw3))
     rw [← HROWS.out] at HROW;have hzt : base ≤ _ := Nat.le_trans hbw.2 HB.out.size;refine (Nets_ref _ rows _ HROW.out HRBY.out (fun y hy => by have := HRLN.out.1 y hy; omega) (by rw [HROWS.out]; simp)).mono ?_;rintro e wn ⟨vq, rfl, hq, hbq⟩;have HVQ := hide hq.reads;replace HO5 := hide (HO5.out.keptB hbq);replace H2 := hide (H2.out.below hbq H2.out.lt);replace HB := hide (HB.out.trans (hbq.mono (Nat.le_trans hbw.2 HB.out.size)));clear hq hbq HROW
     go_wp2_with fail
     have hzt2 : base ≤ _ := Nat.le_trans hbw.2 HB.out.size;refine (Net_ref _ (netsF rows) _ HVQ.out (netsF_bytes_ HRBY.out) (by have := HRLN.out.2; omega)).mono ?_;rintro e wm ⟨vm, rfl, hm, hbm⟩;have HVM := hide hm.reads;replace HO5 := hide (HO5.out.keptB hbm);replace H2 := hide (H2.out.below hbm H2.out.lt);replace HB := hide (HB.out.trans (hbm.mono (Nat.le_trans hbw.2 HB.out.size)));clear hm hbm HVQ;have HAPB := hide (netF_bytes_ (netsF_bytes_ HRBY.out));have HAPL := hide (show (netF (netsF rows)).length ≤ 700 by have h1 := HRLN.out.2; have := netF_few (x := netsF rows) (by omega); omega);have hzt3 : base ≤ _ := Nat.le_trans hbw.2 HB.out.size;have HOB := hide (fun (k : Nat) (hk : u6.ownBlock = some k) => show base ≤ k from (HO5.out.base_ k hk).1)
     go_wp2_with (first
      | (at_builtin; go_must (refine wpList_append_B rfl _ _ rfl base _ _ rfl HO5.out _ _ (netF (netsF rows)) rfl HVM.out HAPB.out (by have := HPL.out; have := HAPL.out; omega) hzt3 ?_); intro va wa hoa hga; replace H2 := hide (H2.out.grown hga (fun e => by have := HOB.out _ e.symm; have := hH2_b; omega)); replace HB := hide (HB.out.grown hga hzt3 (fun k hk => HOB.out k hk)); rw [← HAT.out] at hoa; have HO := hide hoa; clear hoa hga))
     go_roundw
     case measure => simp [intOf]; omega
     case rel => exact ⟨i + 1, by go_num, by omega, HO.out, HB.out⟩
  · obtain rfl : i = n := by omega
    have hlt' : ¬ (i : Int) < (i : Int) := by omega
    have HF := hide (show l.take i = l from List.take_of_length_le (by rw [HN.out]; exact Nat.le_refl _));rw [HF.out] at HO5
    go_wp2_with fail
    go_ret2
    exact ⟨_, rfl, HO5.out.more hbase, HW1.out.trans (HB.out.mono hbase)⟩
set_option maxHeartbeats 8000000
theorem Dir_ref (c : CapD) (lit : Value) (w : World) (hwf : c.Wf) (hl : Bs w w.heap.size lit c.lit) (hn : c.lit.length ≤ 1000000) :
 Calls Tryz.prog 4 #[capV c lit] w fun e w' => ∃ l', e = .returned (.tuple #[capV (dirF c) l', .int .i64 (dirE c)]) ∧ Bs w' w'.heap.size l' (dirF c).lit ∧ Below w.heap.size w w' := by
 have hc := capV_of hwf.keyL hwf.fpL hl;have H1 := hide hwf.keyL;have H2 := hide hwf.fpL;have H3 := hide hl.one;have HL := hide hl;have HLB := hide hwf.litB;have HWF := hide hwf;obtain ⟨NN, HNN⟩ : ∃ x, Hid (CapD.none_ = x) := ⟨_, hide rfl⟩;have HN1 := hide (show NN.key.length = 16 by rw [← HNN.out]; rfl);have HN2 := hide (show NN.fp.length = 32 by rw [← HNN.out]; rfl);have HNL := hide (show NN.lit = [] by rw [← HNN.out]; rfl);obtain ⟨CV, HCV⟩ : ∃ x, Hid (capV c lit = x) := ⟨_, hide rfl⟩
 by_cases hv : decide c.Valid = true
 · have HVA := hide (fun w => by have := Valid_ref c lit w hc; rw [hv, HCV.out] at this; exact this)
   by_cases h4 : c.kind < 4
   · have h4' : ¬ 4 ≤ c.kind := by omega
     have d4 : decide (c.kind < 4) = true := by simp [h4]
     have HF := hide (show dirF c = NN ∧ dirE c = 11 by rw [← HNN.out]; unfold dirF dirE dirOk; simp [h4']);rw [HF.out.1, HF.out.2];clear hv hc hwf hl;rw [HCV.out]
     go_enter Tryz.func4, Tryz.ntmps4
     obtain ⟨g, hg⟩ : ∃ n, w.heap.size = n := ⟨_, rfl⟩
     go_wp2_with (first
      | go_skip
      | (refine wpList_cap_new _ rfl HCV.out.symm rfl H1.out H2.out H3.out ?_; intro w1 hb1 hw1 hs1; rw [hg] at hb1 ⊢; have HB := hide hb1; have HW := hide hw1; clear hb1 hw1)
      | (refine wpList_cap_zero rfl rfl ?_; rw [HNN.out]; intro w2 hb2 hw2 hs2; have hg2 : w1.heap.size = g + 1 := (by omega); rw [hg2] at hb2; try rw [hg2]; have HZ := hide hb2; replace HB := hide (HB.out.below hw2 HB.out.lt); replace HW := hide (HW.out.trans (hw2.mono HW.out.size)); clear hb2 hw2)
      | (refine wpList_cap_all _ rfl rfl rfl HB.out ?_; rw [HCV.out]))
     refine (HVA.out _).mono ?_;rintro e w3 ⟨rfl, hb3⟩;replace HB := hide (HB.out.below hb3 HB.out.lt);replace HZ := hide (HZ.out.below hb3 HZ.out.lt);replace HW := hide (HW.out.trans (hb3.mono HW.out.size));clear hb3
     go_wp2_with (first
      | go_skip
      | (refine wpList_cap_int _ rfl _ rfl rfl HB.out _ rfl ?_)
      | (refine wpList_none_cap rfl rfl ?_; rw [HNN.out])
      | (refine wpList_cap_putAll _ _ rfl rfl rfl HZ.out NN (.slice none 0 0) rfl HN1.out HN2.out rfl ?_; intro w6 hb6 hg6 hs6; replace HZ := hide hb6; replace HW := hide (HW.out.grown hg6 HW.out.size (by intro k hk; simp at hk; omega)); clear hb6 hg6))
     refine bodyPost_ret (results_cap_err rfl _ _ (g + 1) _ _ rfl HZ.out _ rfl) rfl ?_;exact ⟨_, rfl, by rw [HNL.out]; exact Bs.nil_ _ _, HW.out⟩
   · have d4 : decide (c.kind < 4) = false := by simp; omega
     by_cases h6 : 6 < c.kind
     · have h6' : ¬ c.kind ≤ 6 := by omega
       have d6 : decide (6 < c.kind) = true := by simp [h6]
       have HF := hide (show dirF c = NN ∧ dirE c = 11 by rw [← HNN.out]; unfold dirF dirE dirOk; simp [h6']);rw [HF.out.1, HF.out.2];clear hv hc hwf hl;rw [HCV.out]
       go_enter Tryz.func4, Tryz.ntmps4
       obtain ⟨g, hg⟩ : ∃ n, w.heap.size = n := ⟨_, rfl⟩
       go_wp2_with (first
        | go_skip
        | (refine wpList_cap_new _ rfl HCV.out.symm rfl H1.out H2.out H3.out ?_; intro w1 hb1 hw1 hs1; rw [hg] at hb1 ⊢; have HB := hide hb1; have HW := hide hw1; clear hb1 hw1)
        | (refine wpList_cap_zero rfl rfl ?_; rw [HNN.out]; intro w2 hb2 hw2 hs2; have hg2 : w1.heap.size = g + 1 := (by omega); rw [hg2] at hb2; try rw [hg2]; have HZ := hide hb2; replace HB := hide (HB.out.below hw2 HB.out.lt); replace HW := hide (HW.out.trans (hw2.mono HW.out.size)); clear hb2 hw2)
        | (refine wpList_cap_all _ rfl rfl rfl HB.out ?_; rw [HCV.out]))
       refine (HVA.out _).mono ?_;rintro e w3 ⟨rfl, hb3⟩;replace HB := hide (HB.out.below hb3 HB.out.lt);replace HZ := hide (HZ.out.below hb3 HZ.out.lt);replace HW := hide (HW.out.trans (hb3.mono HW.out.size));clear hb3
       go_wp2_with (first
        | go_skip
        | (refine wpList_cap_int _ rfl _ rfl rfl HB.out _ rfl ?_)
        | (refine wpList_none_cap rfl rfl ?_; rw [HNN.out])
        | (refine wpList_cap_putAll _ _ rfl rfl rfl HZ.out NN (.slice none 0 0) rfl HN1.out HN2.out rfl ?_; intro w6 hb6 hg6 hs6; replace HZ := hide hb6; replace HW := hide (HW.out.grown hg6 HW.out.size (by intro k hk; simp at hk; omega)); clear hb6 hg6))
       refine bodyPost_ret (results_cap_err rfl _ _ (g + 1) _ _ rfl HZ.out _ rfl) rfl ?_;exact ⟨_, rfl, by rw [HNL.out]; exact Bs.nil_ _ _, HW.out⟩
     · have h4' : 4 ≤ c.kind := by omega
       have h6' : c.kind ≤ 6 := by omega
       have d6 : decide (6 < c.kind) = false := by simp; omega
       have hok : dirOk c = true := by unfold dirOk; rw [hv]; simp [h4', h6']
       have hcl : c.lit = [] := valid_lit (of_decide_eq_true hv) (by omega);have HE := hide (show dirE c = 0 by unfold dirE; rw [if_pos hok]);obtain ⟨C1, HC1⟩ : ∃ x, Hid (dirF c = x) := ⟨_, hide rfl⟩;have HC1E := hide (show ({ c with kind := c.kind + 3 } : CapD) = C1 by rw [← HC1.out]; unfold dirF; rw [if_pos hok]);have HC1L := hide (show ({ c with kind := c.kind + 3, lit := [] } : CapD) = C1 by rw [← HC1E.out, ← hcl]);have HCLN := hide hcl;have HC1N := hide (show C1.lit = [] by rw [← HC1E.out]; exact hcl);rw [HC1.out, HE.out];clear hv hc hwf hl hok hcl;rw [HCV.out]
       go_enter Tryz.func4, Tryz.ntmps4
       obtain ⟨g, hg⟩ : ∃ n, w.heap.size = n := ⟨_, rfl⟩
       go_wp2_with (first
        | go_skip
        | (refine wpList_cap_new _ rfl HCV.out.symm rfl H1.out H2.out H3.out ?_; intro w1 hb1 hw1 hs1; rw [hg] at hb1 ⊢; have HB := hide hb1; have HW := hide hw1; clear hb1 hw1)
        | (refine wpList_cap_zero rfl rfl ?_; rw [HNN.out]; intro w2 hb2 hw2 hs2; have hg2 : w1.heap.size = g + 1 := (by omega); rw [hg2] at hb2; try rw [hg2]; have HZ := hide hb2; replace HB := hide (HB.out.below hw2 HB.out.lt); replace HW := hide (HW.out.trans (hw2.mono HW.out.size)); clear hb2 hw2)
        | (refine wpList_cap_all _ rfl rfl rfl HB.out ?_; rw [HCV.out]))
       refine (HVA.out _).mono ?_;rintro e w3 ⟨rfl, hb3⟩;replace HB := hide (HB.out.below hb3 HB.out.lt);replace HZ := hide (HZ.out.below hb3 HZ.out.lt);replace HW := hide (HW.out.trans (hb3.mono HW.out.size));clear hb3
       go_wp2_with (first
        | go_skip
        | (refine wpList_cap_int _ rfl _ rfl rfl HB.out _ rfl ?_)
        | (refine wpList_cap_put _ _ rfl 0 rfl rfl HB.out (c.kind + 3) rfl { c with kind := c.kind + 3 } rfl ?_; intro w6 hb6 hg6 hs6; replace HB := hide (show CapB w6 g C1 lit from (by rw [← HC1E.out]; exact hb6)); replace HZ := hide (HZ.out.grown hg6 (by intro h; injection h with h; omega)); replace HW := hide (HW.out.grown hg6 HW.out.size (by intro k hk; simp at hk; omega)); clear hb6 hg6)
        | (refine wpList_cap_all _ rfl rfl rfl HB.out ?_)
        | (refine wpList_cap_putAll _ _ rfl rfl rfl HZ.out C1 lit rfl HB.out.keyL HB.out.fpL HB.out.one ?_; intro w7 hb7 hg7 hs7; replace HZ := hide hb7; replace HW := hide (HW.out.grown hg7 HW.out.size (by intro k hk; simp at hk; omega)); clear hb7 hg7))
       refine bodyPost_ret (results_cap_err rfl _ _ (g + 1) _ _ rfl HZ.out _ rfl) rfl ?_;exact ⟨_, rfl, by have := (HL.out.below HW.out (Nat.le_refl _)).more HW.out.size; rw [HCLN.out] at this; rw [HC1N.out]; exact this, HW.out⟩
 · have HVA := hide (fun w => by have := Valid_ref c lit w hc; rw [Bool.not_eq_true _ |>.mp hv, HCV.out] at this; exact this)
   have HF := hide (show dirF c = NN ∧ dirE c = 11 by rw [← HNN.out]; unfold dirF dirE dirOk; simp [Bool.not_eq_true _ |>.mp hv]);rw [HF.out.1, HF.out.2];clear hv hc hwf hl;rw [HCV.out]
   go_enter Tryz.func4, Tryz.ntmps4
   obtain ⟨g, hg⟩ : ∃ n, w.heap.size = n := ⟨_, rfl⟩
   go_wp2_with (first
    | go_skip
    | (refine wpList_cap_new _ rfl HCV.out.symm rfl H1.out H2.out H3.out ?_; intro w1 hb1 hw1 hs1; rw [hg] at hb1 ⊢; have HB := hide hb1; have HW := hide hw1; clear hb1 hw1)
    | (refine wpList_cap_zero rfl rfl ?_; rw [HNN.out]; intro w2 hb2 hw2 hs2; have hg2 : w1.heap.size = g + 1 := (by omega); rw [hg2] at hb2; try rw [hg2]; have HZ := hide hb2; replace HB := hide (HB.out.below hw2 HB.out.lt); replace HW := hide (HW.out.trans (hw2.mono HW.out.size)); clear hb2 hw2)
    | (refine wpList_cap_all _ rfl rfl rfl HB.out ?_; rw [HCV.out]))
   refine (HVA.out _).mono ?_;rintro e w3 ⟨rfl, hb3⟩;replace HB := hide (HB.out.below hb3 HB.out.lt);replace HZ := hide (HZ.out.below hb3 HZ.out.lt);replace HW := hide (HW.out.trans (hb3.mono HW.out.size));clear hb3
   go_wp2_with (first
    | go_skip
    | (refine wpList_cap_int _ rfl _ rfl rfl HB.out _ rfl ?_)
    | (refine wpList_none_cap rfl rfl ?_; rw [HNN.out])
    | (refine wpList_cap_putAll _ _ rfl rfl rfl HZ.out NN (.slice none 0 0) rfl HN1.out HN2.out rfl ?_; intro w6 hb6 hg6 hs6; replace HZ := hide hb6; replace HW := hide (HW.out.grown hg6 HW.out.size (by intro k hk; simp at hk; omega)); clear hb6 hg6))
   refine bodyPost_ret (results_cap_err rfl _ _ (g + 1) _ _ rfl HZ.out _ rfl) rfl ?_;exact ⟨_, rfl, by rw [HNL.out]; exact Bs.nil_ _ _, HW.out⟩
end Go.Proofs.YthdjgebbjogmiaaGreatDoor
