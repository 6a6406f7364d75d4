/-
DirsBack holds: what is packed is read as it was by who may write, without writing capabilities by who may only read. Conditions: none but the row's own.
-/
import Derived.Test.YthdjgebbjogmiaaDoorJoin21
import Derived.Test.YthdjgebbjogmiaaDoorEntRight
import Derived.Test.YthdjgebbjogmiaaDoorJoin27
import Derived.Test.YthdjgebbjogmiaaDoorKeepEnts
import Derived.Test.YthdjgebbjogmiaaDoorJoin23
import Derived.Test.YthdjgebbjogmiaaDoorCapDir
import Derived.Test.YthdjgebbjogmiaaDoorJoin28
import Derived.Test.YthdjgebbjogmiaaDoorTied
set_option linter.unusedVariables false
set_option linter.unusedSimpArgs false
namespace Go.Proofs.YthdjgebbjogmiaaDoor.LawDirsBack
open Go Go.RowKit Go.ChangeShapes Go.WideShapes Go.ChangeAt
set_option linter.unusedVariables false
set_option linter.unusedSimpArgs false
set_option maxRecDepth 100000
theorem bs_emptyV' {w : World} {B : Nat} {v : Value} (h : Bs w B v []) : ∀ W B', Bs W B' v [] := fun W B' => by
 obtain ⟨A, c, rfl, h1, h2, h3⟩ := h.open_
 exact ⟨A, c, rfl, h1, h2, rfl, fun h => absurd h (by simp)⟩
set_option maxHeartbeats 16000000 in
theorem walk (w : World) (ht : Tab w w.heap.size) (S : List Int) (hsl : S.length = 16) (hsb : Bytes S) (P : List Int) (hpl : P.length = 32) (hpb : Bytes P) (v : Value) (l : List EntD) (hv : EntsB w w.heap.size v l) (hin : ∀ e ∈ l, e.In) :
 Calls Tryd.prog 8 #[.agg (u8s S).toArray, .agg (u8s P).toArray, v] w fun e w' => e = .returned (.bool true) ∧ Below w.heap.size w w' := by
 have HT := hide ht
 have HV := hide hv
 have HIN := hide hin
 have HWFL := hide (fun (e : EntD) (he : e ∈ l) => (hin e he).wf)
 have HSL := hide hsl
 have HSB := hide hsb
 have HPL_ := hide hpl
 have HPB_ := hide hpb
 have HSZK := hide (show (Tryd.prog.info? 23).map (·.size) = some (u8s S).length by rw [u8s_len, HSL.out]; exact size_key)
 have HSZH := hide (show (Tryd.prog.info? 25).map (·.size) = some (u8s P).length by rw [u8s_len, HPL_.out]; kernel_rfl)
 obtain ⟨g4, HG4⟩ : ∃ k, Hid (w.heap.size = k) := ⟨_, hide rfl⟩
 have hg4 : g4 ≤ w.heap.size ∧ w.heap.size ≤ g4 := by have := HG4.out; omega
 clear hv hin ht hsl hsb hpl hpb
 go_enter Tryd.func8, Tryd.ntmps8
 go_wp2_with (first
  | (refine wpList_box_key _ rfl S rfl rfl ?_; intro w0 hb1 hw1 hs1; rw [HG4.out] at hb1 hs1; try rw [HG4.out]; have H4 := hide hb1; have HB := hide hw1; have hs0 : w0.heap.size = g4 + 1 := hs1; clear hb1 hw1 hs1)
  | (refine wpList_box_hash _ rfl P rfl rfl ?_; intro w1 hb1 hw1 hs1; rw [hs0] at hb1; try rw [hs0]; have H5 := hide hb1; replace H4 := hide (H4.out.below hw1 H4.out.lt); replace HB := hide (HB.out.trans (hw1.mono HB.out.size)); have hz1 := hw1.size; clear hb1 hw1 hs1)
  | (refine wpList_st_all 23 _ rfl rfl rfl H4.out _ Tryd.underlying23 rfl HSZK.out ?_)
  | (refine wpList_st_all 25 _ rfl rfl rfl H5.out _ Tryd.underlying25 rfl HSZH.out ?_))
 refine (Slot_any S P w1 HSL.out HSB.out HPL_.out ((HT.out.below HB.out (Nat.le_refl _)).more HB.out.size)).mono ?_
 rintro e w2 ⟨rfl, hb2⟩
 replace HB := hide (HB.out.trans (hb2.mono HB.out.size))
 have hz2 := hb2.size
 clear hb2
 have HSW := hide (slotF_wf (k := S) (f := P) HPL_.out HPB_.out)
 have HCDX := hide (dirSlot_all S P HPL_.out HPB_.out)
 have HRDX := hide (roDir_all S P HPL_.out HPB_.out)
 have HVDX := hide (voDir_all S P HPL_.out HPB_.out)
 have HSLT := hide (show (slotF S P).lit = [] from rfl)
 obtain ⟨SK, HSK⟩ : ∃ x, Hid (slotF S P = x) := ⟨_, hide rfl⟩
 rw [HSK.out] at HSW HCDX HRDX HVDX HSLT
 rw [HSK.out]
 go_wp2_with (first
  | go_skip)
 refine (Dir_any SK (.slice none 0 0) w2 HSW.out (by rw [HSLT.out]; exact Bs.nil_ _ _) (by rw [HSLT.out]; simp)).mono ?_
 rintro e w3 ⟨l3, rfl, hl3, hb3⟩
 rw [HCDX.out.2.1]
 obtain ⟨CD, HCDE⟩ : ∃ x, Hid (dirF SK = x) := ⟨_, hide rfl⟩
 rw [HCDE.out] at hl3 HRDX HVDX ⊢
 have HCD := hide (show CD.Wf ∧ CD.lit = [] ∧ CD.Valid ∧ CD.kind = 7 by rw [← HCDE.out]; exact ⟨HCDX.out.1, HCDX.out.2.2⟩)
 rw [HCD.out.2.1] at hl3
 have HL3F := hide (fun (W : World) => show Bs W W.heap.size l3 CD.lit by rw [HCD.out.2.1]; exact bs_emptyV' hl3 W _)
 have HL31 := hide (bs_one_ hl3)
 clear hl3 HCDX
 replace HB := hide (HB.out.trans (hb3.mono HB.out.size))
 have hz3 := hb3.size
 clear hb3
 obtain ⟨g9, HG9⟩ : ∃ k, Hid (w3.heap.size = k) := ⟨_, hide rfl⟩
 have hg9 : g9 ≤ w3.heap.size ∧ w3.heap.size ≤ g9 := by have := HG9.out; omega
 go_wp2_with (first
  | go_skip
  | (refine wpList_cap_zero rfl rfl ?_; intro w4 hba hwa hsa; rw [HG9.out] at hba hsa; try rw [HG9.out]; have H9 := hide hba; replace HB := hide (HB.out.trans (hwa.mono HB.out.size)); have hzw4 := hwa.size; clear hba hwa)
  | (refine wpList_cap_putAll _ _ rfl rfl rfl H9.out CD l3 rfl HCD.out.1.keyL HCD.out.1.fpL HL31.out ?_; intro w5 hbs hgs hss; replace HB := hide (HB.out.grown hgs HB.out.size (by intro k hk; injection hk; omega)); replace H9 := hide hbs; have hzw5 := hss; clear hbs hgs hss)
  | (refine wpList_cap_all _ rfl rfl rfl H9.out ?_))
 refine (ReadOnly_any CD l3 w5 HCD.out.1 (HL3F.out w5) (by rw [HCD.out.2.1]; simp) ((HT.out.below HB.out (Nat.le_refl _)).more HB.out.size)).mono ?_
 rintro e w6 ⟨l6, rfl, hl6, hb6⟩
 rw [HRDX.out.2.1]
 obtain ⟨RD, HRDE⟩ : ∃ x, Hid (roF CD = x) := ⟨_, hide rfl⟩
 rw [HRDE.out] at hl6 ⊢
 have HRD := hide (show RD.Wf ∧ RD.lit = [] ∧ RD.Valid ∧ RD.kind = 8 by rw [← HRDE.out]; exact ⟨HRDX.out.1, HRDX.out.2.2⟩)
 rw [HRD.out.2.1] at hl6
 have HL6F := hide (fun (W : World) => show Bs W W.heap.size l6 RD.lit by rw [HRD.out.2.1]; exact bs_emptyV' hl6 W _)
 have HL61 := hide (bs_one_ hl6)
 clear hl6 HRDX
 replace H9 := hide (H9.out.below hb6 H9.out.lt)
 replace HB := hide (HB.out.trans (hb6.mono HB.out.size))
 have hz6 := hb6.size
 clear hb6
 obtain ⟨g10, HG10⟩ : ∃ k, Hid (w6.heap.size = k) := ⟨_, hide rfl⟩
 have hg10 : g10 ≤ w6.heap.size ∧ w6.heap.size ≤ g10 := by have := HG10.out; omega
 have hlH9_10 : g9 < g10 := by have := H9.out.lt; omega
 go_wp2_with (first
  | go_skip
  | (refine wpList_cap_all _ rfl rfl rfl H9.out ?_)
  | (refine wpList_cap_zero rfl rfl ?_; intro w7 hba hwa hsa; rw [HG10.out] at hba hsa; try rw [HG10.out]; have H10 := hide hba; replace H9 := hide (H9.out.below hwa H9.out.lt); replace HB := hide (HB.out.trans (hwa.mono HB.out.size)); have hzw7 := hwa.size; clear hba hwa)
  | (refine wpList_cap_putAll _ _ rfl rfl rfl H10.out RD l6 rfl HRD.out.1.keyL HRD.out.1.fpL HL61.out ?_; intro w8 hbs hgs hss; replace H9 := hide (H9.out.grown hgs (by intro e; injection e; omega)); replace HB := hide (HB.out.grown hgs HB.out.size (by intro k hk; injection hk; omega)); replace H10 := hide hbs; have hzw8 := hss; clear hbs hgs hss)
  | (refine wpList_cap_all _ rfl rfl rfl H9.out ?_))
 refine (entright_any v l w8 ((HV.out.below HB.out (Nat.le_refl _)).more HB.out.size) HIN.out).mono ?_
 rintro e w9 ⟨v9, rfl, ho9, hb9⟩
 have HO9 := hide (ho9.reads hb9.size)
 clear ho9
 replace H9 := hide (H9.out.below hb9 H9.out.lt)
 replace H10 := hide (H10.out.below hb9 H10.out.lt)
 replace HB := hide (HB.out.trans (hb9.mono HB.out.size))
 have hz9 := hb9.size
 clear hb9
 obtain ⟨l1, HL1⟩ : ∃ x, Hid (rightsL l = x) := ⟨_, hide rfl⟩
 have HR1 := hide (show rightB l1 = true by rw [← HL1.out]; exact rights_right l)
 have HN1 := hide (show l1.length ≤ 6 by rw [← HL1.out]; unfold rightsL; rw [rightsN_len]; omega)
 have HLT := hide (show ∀ x ∈ l1, x.read.lit.length ≤ 1000000 ∧ x.write.lit.length ≤ 1000000 by rw [← HL1.out]; exact rights_lit)
 have HW1 := hide (show ∀ x ∈ l1, x.Wf by rw [← HL1.out]; exact rights_wf HWFL.out)
 rw [HL1.out] at HO9
 obtain ⟨B9, HBd9⟩ : ∃ k, Hid (w9.heap.size = k) := ⟨_, hide rfl⟩
 have hBd9 : B9 ≤ w9.heap.size ∧ w9.heap.size ≤ B9 := by have := HBd9.out; omega
 have HE1 := hide (show EntsB w9 B9 v9 l1 from (HO9.out).more hBd9.2)
 clear HO9 HL1
 go_wp2_with (first
  | go_skip
  | (refine wpList_cap_all _ rfl rfl rfl H9.out ?_))
 refine (Pack_any CD l3 v9 l1 w9 HCD.out.1 (HL3F.out w9) (HE1.out.more (by omega)) HLT.out (by have := HN1.out; omega) ((HT.out.below HB.out (Nat.le_refl _)).more HB.out.size)).mono ?_
 rintro e w11 ⟨v11, rfl, ho11, hb11⟩
 rw [(pack_ok HCD.out.2.2.1 HCD.out.2.2.2 HR1.out).1]
 rw [(pack_ok HCD.out.2.2.1 HCD.out.2.2.2 HR1.out).2] at ho11
 have HPL := hide (show (packF CD.key l1).length ≤ 16000 by have := packF_len CD.key l1 (fun e he => ⟨HW1.out e he, ((oneB_iff e).1 (((rightB_iff l1).1 HR1.out).1 e he)).1.2⟩); have := HN1.out; omega)
 have HPB := hide ho11.bytes
 have HU7 := hide (unpack_pack CD.key HW1.out HR1.out)
 have HU8 := hide (unpack_mask CD.key RD.key HW1.out HR1.out)
 obtain ⟨PL, HPLE⟩ : ∃ x, Hid (packF CD.key l1 = x) := ⟨_, hide rfl⟩
 rw [HPLE.out] at ho11 HPL HPB HU7 HU8
 obtain ⟨B11, HBd11⟩ : ∃ k, Hid (w11.heap.size = k) := ⟨_, hide rfl⟩
 have hBd11 : B11 ≤ w11.heap.size ∧ w11.heap.size ≤ B11 := by have := HBd11.out; omega
 have HV11 := hide (show Bs w11 B11 v11 PL from ho11.reads.more hBd11.2)
 clear ho11 HPLE
 replace HE1 := hide (HE1.out.below hb11 (by omega))
 replace H9 := hide (H9.out.below hb11 H9.out.lt)
 replace H10 := hide (H10.out.below hb11 H10.out.lt)
 replace HB := hide (HB.out.trans (hb11.mono HB.out.size))
 have hz11 := hb11.size
 clear hb11
 go_wp2_with (first
  | go_skip
  | (refine wpList_cap_all _ rfl rfl rfl H9.out ?_))
 refine (Unpack_any CD l3 v11 PL w11 HCD.out.1 (HL3F.out w11) (HV11.out.more (by omega)) HPB.out HPL.out ((HT.out.below HB.out (Nat.le_refl _)).more HB.out.size)).mono ?_
 rintro e w13 ⟨v13, rfl, ho13, hb13⟩
 rw [(unp_ok HCD.out.2.2.1 HCD.out.2.2.2 PL).1, HU7.out]
 rw [(unp_ok HCD.out.2.2.1 HCD.out.2.2.2 PL).2, HU7.out] at ho13
 have HO13 := hide (show EntsB w13 w13.heap.size v13 l1 from ho13.reads hb13.size)
 rw [show codeU (some l1) = 0 from rfl]
 clear ho13
 replace HE1 := hide (HE1.out.below hb13 (by omega))
 replace HV11 := hide (HV11.out.below hb13 (by omega))
 replace H9 := hide (H9.out.below hb13 H9.out.lt)
 replace H10 := hide (H10.out.below hb13 H10.out.lt)
 replace HB := hide (HB.out.trans (hb13.mono HB.out.size))
 have hz13 := hb13.size
 clear hb13
 obtain ⟨B13, HBd13⟩ : ∃ k, Hid (w13.heap.size = k) := ⟨_, hide rfl⟩
 have hBd13 : B13 ≤ w13.heap.size ∧ w13.heap.size ≤ B13 := by have := HBd13.out; omega
 have HE13 := hide (show EntsB w13 B13 v13 l1 from (HO13.out).more hBd13.2)
 clear HO13
 go_wp2_with (first
  | go_skip
  | (refine wpList_cap_all _ rfl rfl rfl H10.out ?_))
 refine (Unpack_any RD l6 v11 PL w13 HRD.out.1 (HL6F.out w13) (HV11.out.more (by omega)) HPB.out HPL.out ((HT.out.below HB.out (Nat.le_refl _)).more HB.out.size)).mono ?_
 rintro e w15 ⟨v15, rfl, ho15, hb15⟩
 rw [(unp_ok8 HRD.out.2.2.1 HRD.out.2.2.2 PL).1, HU8.out]
 rw [(unp_ok8 HRD.out.2.2.1 HRD.out.2.2.2 PL).2, HU8.out] at ho15
 have HO15 := hide (show EntsB w15 w15.heap.size v15 (l1.map maskE) from ho15.reads hb15.size)
 rw [show codeU (some (l1.map maskE)) = 0 from rfl]
 clear ho15
 replace HE1 := hide (HE1.out.below hb15 (by omega))
 replace HV11 := hide (HV11.out.below hb15 (by omega))
 replace HE13 := hide (HE13.out.below hb15 (by omega))
 replace H9 := hide (H9.out.below hb15 H9.out.lt)
 replace H10 := hide (H10.out.below hb15 H10.out.lt)
 replace HB := hide (HB.out.trans (hb15.mono HB.out.size))
 have hz15 := hb15.size
 clear hb15
 obtain ⟨B15, HBd15⟩ : ∃ k, Hid (w15.heap.size = k) := ⟨_, hide rfl⟩
 have hBd15 : B15 ≤ w15.heap.size ∧ w15.heap.size ≤ B15 := by have := HBd15.out; omega
 have HE15 := hide (show EntsB w15 B15 v15 (l1.map maskE) from (HO15.out).more hBd15.2)
 clear HO15
 obtain ⟨A15, c15, e15⟩ : ∃ A k, v15 = .slice A l1.length k := by obtain ⟨A, k, e, _⟩ := HE15.out; exact ⟨A, k, by rw [e, List.length_map]⟩
 obtain ⟨A9, c9, e9⟩ : ∃ A k, v9 = .slice A l1.length k := by obtain ⟨A, k, e, _⟩ := HE1.out; exact ⟨A, k, e⟩
 obtain ⟨n, HN⟩ : ∃ k, Hid (l1.length = k) := ⟨_, hide rfl⟩
 have hn6 : n ≤ 6 := by have := HN1.out; have := HN.out; omega
 rw [HN.out] at e15 e9
 subst e15 e9
 have HNN := hide (show ((n : Int) != (n : Int)) = false by simp)
 go_wp2_with (first
  | go_skip)
 refine (keep_ents v13 (.slice A9 n c9) l1 l1 w15 w15.heap.size (Nat.le_refl _) (HE13.out.more (by omega)) (HE1.out.more (by omega))).mono ?_
 rintro e w16 ⟨rfl, hb16⟩
 rw [(entsEq_iff l1 l1).2 rfl]
 replace HE1 := hide (HE1.out.below hb16 (by omega))
 replace HV11 := hide (HV11.out.below hb16 (by omega))
 replace HE13 := hide (HE13.out.below hb16 (by omega))
 replace HE15 := hide (HE15.out.below hb16 (by omega))
 replace H9 := hide (H9.out.below hb16 H9.out.lt)
 replace H10 := hide (H10.out.below hb16 H10.out.lt)
 replace HB := hide (HB.out.trans (hb16.mono HB.out.size))
 have hz16 := hb16.size
 clear hb16
 obtain ⟨B, HBB⟩ : ∃ k, Hid (w16.heap.size = k) := ⟨_, hide rfl⟩
 have hBB : B ≤ w16.heap.size ∧ w16.heap.size ≤ B := by have := HBB.out; omega
 have HBE := hide (Below.refl B w16)
 go_wp2_with (first
  | go_skip
  | (refine wpList_val_ rfl (exec_neq_i64 _ _ _ _ rfl (n : Int) (n : Int) rfl rfl _ HNN.out) ?_))
 have HEA := hide (HE15.out.more (show B15 ≤ B by omega))
 have HEB := hide (HE1.out.more (show B9 ≤ B by omega))
 go_loopw [85] (fun v85 wr => ∃ i : Nat, v85 = .int .i64 (i : Int) ∧ i ≤ n ∧ Below B w16 wr) (fun v85 _ => n - (intOf v85).toNat)
 case atStart => exact ⟨0, by go_num, by omega, HBE.out⟩
 case round =>
  obtain ⟨i, rfl, hin, hbel⟩ := hrel
  have HBL := hide hbel
  clear hbel
  by_cases hlt : i < n
  · have hlt' : (i : Int) < (n : Int) := by omega
    obtain ⟨A', ca, e1, _, _, h3⟩ := HEA.out
    obtain ⟨A'', cb, e2, _, _, h3'⟩ := HEB.out
    injection e1 with e1 _ _
    injection e2 with e2 _ _
    subst e1 e2
    obtain ⟨ba, oa, rfl, hba, hca⟩ := h3 (by rw [List.length_map, HN.out]; omega)
    obtain ⟨bb, ob, rfl, hbb, hcb⟩ := h3' (by rw [HN.out]; omega)
    obtain ⟨lr, lw, hok1, hrg1⟩ := hca i (by rw [List.length_map, HN.out]; exact hlt)
    obtain ⟨kr, kw, hok2, hrg2⟩ := hcb i (by rw [HN.out]; exact hlt)
    have HMK := hide (show (l1.map maskE)[i]'(by rw [List.length_map, HN.out]; exact hlt) = maskE (l1[i]'(by rw [HN.out]; exact hlt)) from List.getElem_map _)
    rw [HMK.out] at hok1 hrg1
    have HYO := hide ((oneB_iff (l1[i]'(by rw [HN.out]; exact hlt))).1 (((rightB_iff l1).1 HR1.out).1 _ (List.getElem_mem _)))
    obtain ⟨y, HY⟩ : ∃ x, Hid (l1[i]'(by rw [HN.out]; exact hlt) = x) := ⟨_, hide rfl⟩
    rw [HY.out] at hok1 hrg1 hok2 hrg2 HYO
    obtain ⟨x, HX⟩ : ∃ x, Hid (maskE y = x) := ⟨_, hide rfl⟩
    rw [HX.out] at hok1 hrg1
    have HXE := hide (show x.name = y.name ∧ x.read = y.read ∧ x.write = CapD.none_ ∧ x.has = false by rw [← HX.out]; exact ⟨rfl, rfl, rfl, rfl⟩)
    clear h3 h3' hca hcb HMK
    have HXN := hide (show w16.cell? ⟨ba, oa + i * 108, none⟩ = some (.string (strOfNums x.name)) by have := hrg1 0 _ ent_name; rwa [Nat.add_zero] at this)
    have HXR := hide (fun (j : Nat) (u : Value) (hu : (capCells x.read lr)[j]? = some u) => show w16.cell? ⟨ba, oa + i * 108 + 1 + j, none⟩ = some u by rw [Nat.add_assoc]; exact hrg1 (1 + j) u (ent_read hok1 j u hu))
    have HXW := hide (fun (j : Nat) (u : Value) (hu : (capCells x.write lw)[j]? = some u) => show w16.cell? ⟨ba, oa + i * 108 + 54 + j, none⟩ = some u by rw [Nat.add_assoc]; exact hrg1 (54 + j) u (ent_write hok1 j u hu))
    have HXH := hide (show w16.cell? ⟨ba, oa + i * 108 + 107, none⟩ = some (.bool x.has) by exact hrg1 107 _ (ent_has hok1))
    have HXB := hide hok1.nameB
    have HXSR := hide (show (Tryd.prog.info? 28).map (·.size) = some (capCells x.read lr).length by rw [cc_len lr hok1.rWf.keyL hok1.rWf.fpL]; exact size_cap)
    have HXSW := hide (show (Tryd.prog.info? 28).map (·.size) = some (capCells x.write lw).length by rw [cc_len lw hok1.wWf.keyL hok1.wWf.fpL]; exact size_cap)
    have HYN := hide (show w16.cell? ⟨bb, ob + i * 108, none⟩ = some (.string (strOfNums y.name)) by have := hrg2 0 _ ent_name; rwa [Nat.add_zero] at this)
    have HYR := hide (fun (j : Nat) (u : Value) (hu : (capCells y.read kr)[j]? = some u) => show w16.cell? ⟨bb, ob + i * 108 + 1 + j, none⟩ = some u by rw [Nat.add_assoc]; exact hrg2 (1 + j) u (ent_read hok2 j u hu))
    have HYW := hide (fun (j : Nat) (u : Value) (hu : (capCells y.write kw)[j]? = some u) => show w16.cell? ⟨bb, ob + i * 108 + 54 + j, none⟩ = some u by rw [Nat.add_assoc]; exact hrg2 (54 + j) u (ent_write hok2 j u hu))
    have HYH := hide (show w16.cell? ⟨bb, ob + i * 108 + 107, none⟩ = some (.bool y.has) by exact hrg2 107 _ (ent_has hok2))
    have HYB := hide hok2.nameB
    have HYSR := hide (show (Tryd.prog.info? 28).map (·.size) = some (capCells y.read kr).length by rw [cc_len kr hok2.rWf.keyL hok2.rWf.fpL]; exact size_cap)
    have HYSW := hide (show (Tryd.prog.info? 28).map (·.size) = some (capCells y.write kw).length by rw [cc_len kw hok2.wWf.keyL hok2.wWf.fpL]; exact size_cap)
    have HXF := hide (show w16.cell? ⟨ba, oa + i * 108 + 107, none⟩ = some (.bool false) by rw [← HXE.out.2.2.2]; exact HXH.out)
    have HNE := hide (show decide (x.name = y.name) = !false by rw [HXE.out.1]; simp)
    have HC1 := hide (fun (w' : World) (hS : Below B w16 w') => (write_any x.read lr w' (capV_of hok1.rWf.keyL hok1.rWf.fpL ((hok1.r1.below hS (Nat.le_refl _)).more (Nat.le_trans hBB.1 hS.size)))).mono (fun e w'' hh => (⟨by rw [hh.1, HXE.out.2.1, HYO.out.2.2.1], hS.trans (hh.2.mono (Nat.le_trans hBB.1 hS.size))⟩ : e = .returned (.bool false) ∧ Below B w16 w'')))
    have HC2 := hide (fun (w' : World) (hS : Below B w16 w') => (write_any x.write lw w' (capV_of hok1.wWf.keyL hok1.wWf.fpL ((hok1.w1.below hS (Nat.le_refl _)).more (Nat.le_trans hBB.1 hS.size)))).mono (fun e w'' hh => (⟨by rw [hh.1, HXE.out.2.2.1, none_write], hS.trans (hh.2.mono (Nat.le_trans hBB.1 hS.size))⟩ : e = .returned (.bool false) ∧ Below B w16 w'')))
    have HC3 := hide (fun (w' : World) (hS : Below B w16 w') => (same_caps x.read y.read lr kr w' hok1.rWf.keyL hok1.rWf.fpL hok2.rWf.keyL hok2.rWf.fpL ((hok1.r1.below hS (Nat.le_refl _)).more (Nat.le_trans hBB.1 hS.size)) ((hok2.r1.below hS (Nat.le_refl _)).more (Nat.le_trans hBB.1 hS.size)) hok1.rWf.litB hok2.rWf.litB).mono (fun e w'' hh => (⟨by rw [hh.1, (sameF_iff _ _).2 HXE.out.2.1], hS.trans (hh.2.mono (Nat.le_trans hBB.1 hS.size))⟩ : e = .returned (.bool true) ∧ Below B w16 w'')))
    clear hok1 hrg1 hok2 hrg2 HXH HYH
    go_upto_region 12 with fail
    refine wp_region_qw (Below B w16) (by kernel_rfl) (by kernel_rfl) HBL.out.drew ?_
    refine qw_val (v := .slice (some ⟨ba, oa, none⟩) n c15) 88 rfl (by kernel_rfl) (fun w' hS => exec_move _ rfl (.slice (some ⟨ba, oa, none⟩) n c15) rfl) ?_
    simp only [Act.put, s1_, s2_, s3_]
    refine qw_val (v := .int .i64 ((i : Int))) 89 rfl (by kernel_rfl) (fun w' hS => exec_move _ rfl (.int .i64 ((i : Int))) rfl) ?_
    simp only [Act.put, s1_, s2_, s3_]
    refine qw_val (v := .pointer (some ⟨ba, oa + i * 108, none⟩)) 90 rfl (by kernel_rfl) (fun w' hS => exec_indexG _ _ _ rfl _ n c15 ba oa 108 i rfl rfl rfl (by omega) (by kernel_rfl) _ (by omega)) ?_
    simp only [Act.put, s1_, s2_, s3_]
    refine qw_val (v := .pointer (some ⟨ba, oa + i * 108 + 107, none⟩)) 91 rfl (by kernel_rfl) (fun w' hS => exec_fieldG _ _ 3 107 rfl ba (oa + i * 108) rfl (by kernel_rfl) _ (by first | rfl | omega)) ?_
    simp only [Act.put, s1_, s2_, s3_]
    refine qw_val (v := .bool false) 92 rfl (by kernel_rfl) (fun w' hS => exec_load_one _ _ rfl ba (oa + i * 108 + 107) rfl _ Tryd.underlying4 rfl _ ((hS.cell (p := ⟨ba, oa + i * 108 + 107, none⟩) hba).trans HXF.out)) ?_
    simp only [Act.put, s1_, s2_, s3_]
    refine qw_val (v := .bool false) 93 rfl (by kernel_rfl) (fun w' hS => exec_move _ rfl (.bool false) rfl) ?_
    simp only [Act.put, s1_, s2_, s3_]
    refine qw_val (v := .slice (some ⟨ba, oa, none⟩) n c15) 94 rfl (by kernel_rfl) (fun w' hS => exec_move _ rfl (.slice (some ⟨ba, oa, none⟩) n c15) rfl) ?_
    simp only [Act.put, s1_, s2_, s3_]
    refine qw_val (v := .int .i64 ((i : Int))) 95 rfl (by kernel_rfl) (fun w' hS => exec_move _ rfl (.int .i64 ((i : Int))) rfl) ?_
    simp only [Act.put, s1_, s2_, s3_]
    refine qw_val (v := .pointer (some ⟨ba, oa + i * 108, none⟩)) 96 rfl (by kernel_rfl) (fun w' hS => exec_indexG _ _ _ rfl _ n c15 ba oa 108 i rfl rfl rfl (by omega) (by kernel_rfl) _ (by omega)) ?_
    simp only [Act.put, s1_, s2_, s3_]
    refine qw_val (v := .pointer (some ⟨ba, oa + i * 108 + 1, none⟩)) 97 rfl (by kernel_rfl) (fun w' hS => exec_fieldG _ _ 1 1 rfl ba (oa + i * 108) rfl (by kernel_rfl) _ (by first | rfl | omega)) ?_
    simp only [Act.put, s1_, s2_, s3_]
    refine qw_val (v := .agg (capCells x.read lr).toArray) 98 rfl (by kernel_rfl) (fun w' hS => exec_loadAll _ _ rfl ba (oa + i * 108 + 1) rfl _ _ (fun j u hu => (hS.cell (p := ⟨ba, oa + i * 108 + 1 + j, none⟩) hba).trans (HXR.out j u hu)) Tryd.underlying28 rfl HXSR.out) ?_
    simp only [Act.put, s1_, s2_, s3_]
    refine qw_call (v := .bool false) 99 rfl (by kernel_rfl) 31 #[.agg (capCells x.read lr).toArray] (fun w' => exec_call _ _ _ rfl _ (by simp [Act.eval]) (by go_simp)) (fun w' hS => HC1.out w' hS) ?_
    simp only [Act.put, s1_, s2_, s3_]
    refine qw_val (v := .bool false) 100 rfl (by kernel_rfl) (fun w' hS => exec_pickG _ _ _ rfl false rfl _ rfl) ?_
    simp only [Act.put, s1_, s2_, s3_]
    refine qw_val (v := .bool false) 101 rfl (by kernel_rfl) (fun w' hS => exec_move _ rfl (.bool false) rfl) ?_
    simp only [Act.put, s1_, s2_, s3_]
    refine qw_val (v := .slice (some ⟨ba, oa, none⟩) n c15) 102 rfl (by kernel_rfl) (fun w' hS => exec_move _ rfl (.slice (some ⟨ba, oa, none⟩) n c15) rfl) ?_
    simp only [Act.put, s1_, s2_, s3_]
    refine qw_val (v := .int .i64 ((i : Int))) 103 rfl (by kernel_rfl) (fun w' hS => exec_move _ rfl (.int .i64 ((i : Int))) rfl) ?_
    simp only [Act.put, s1_, s2_, s3_]
    refine qw_val (v := .pointer (some ⟨ba, oa + i * 108, none⟩)) 104 rfl (by kernel_rfl) (fun w' hS => exec_indexG _ _ _ rfl _ n c15 ba oa 108 i rfl rfl rfl (by omega) (by kernel_rfl) _ (by omega)) ?_
    simp only [Act.put, s1_, s2_, s3_]
    refine qw_val (v := .pointer (some ⟨ba, oa + i * 108 + 54, none⟩)) 105 rfl (by kernel_rfl) (fun w' hS => exec_fieldG _ _ 2 54 rfl ba (oa + i * 108) rfl (by kernel_rfl) _ (by first | rfl | omega)) ?_
    simp only [Act.put, s1_, s2_, s3_]
    refine qw_val (v := .agg (capCells x.write lw).toArray) 106 rfl (by kernel_rfl) (fun w' hS => exec_loadAll _ _ rfl ba (oa + i * 108 + 54) rfl _ _ (fun j u hu => (hS.cell (p := ⟨ba, oa + i * 108 + 54 + j, none⟩) hba).trans (HXW.out j u hu)) Tryd.underlying28 rfl HXSW.out) ?_
    simp only [Act.put, s1_, s2_, s3_]
    refine qw_call (v := .bool false) 107 rfl (by kernel_rfl) 31 #[.agg (capCells x.write lw).toArray] (fun w' => exec_call _ _ _ rfl _ (by simp [Act.eval]) (by go_simp)) (fun w' hS => HC2.out w' hS) ?_
    simp only [Act.put, s1_, s2_, s3_]
    refine qw_val (v := .bool false) 108 rfl (by kernel_rfl) (fun w' hS => exec_pickG _ _ _ rfl false rfl _ rfl) ?_
    simp only [Act.put, s1_, s2_, s3_]
    refine qw_val (v := .bool false) 109 rfl (by kernel_rfl) (fun w' hS => exec_move _ rfl (.bool false) rfl) ?_
    simp only [Act.put, s1_, s2_, s3_]
    refine qw_val (v := .slice (some ⟨ba, oa, none⟩) n c15) 110 rfl (by kernel_rfl) (fun w' hS => exec_move _ rfl (.slice (some ⟨ba, oa, none⟩) n c15) rfl) ?_
    simp only [Act.put, s1_, s2_, s3_]
    refine qw_val (v := .int .i64 ((i : Int))) 111 rfl (by kernel_rfl) (fun w' hS => exec_move _ rfl (.int .i64 ((i : Int))) rfl) ?_
    simp only [Act.put, s1_, s2_, s3_]
    refine qw_val (v := .pointer (some ⟨ba, oa + i * 108, none⟩)) 112 rfl (by kernel_rfl) (fun w' hS => exec_indexG _ _ _ rfl _ n c15 ba oa 108 i rfl rfl rfl (by omega) (by kernel_rfl) _ (by omega)) ?_
    simp only [Act.put, s1_, s2_, s3_]
    refine qw_val (v := .pointer (some ⟨ba, oa + i * 108, none⟩)) 113 rfl (by kernel_rfl) (fun w' hS => exec_fieldG _ _ 0 0 rfl ba (oa + i * 108) rfl (by kernel_rfl) _ (by first | rfl | omega)) ?_
    simp only [Act.put, s1_, s2_, s3_]
    refine qw_val (v := .string (strOfNums x.name)) 114 rfl (by kernel_rfl) (fun w' hS => exec_load_one _ _ rfl ba (oa + i * 108) rfl _ Tryd.underlying9 rfl _ ((hS.cell (p := ⟨ba, oa + i * 108, none⟩) hba).trans HXN.out)) ?_
    simp only [Act.put, s1_, s2_, s3_]
    refine qw_val (v := .slice (some ⟨bb, ob, none⟩) n c9) 115 rfl (by kernel_rfl) (fun w' hS => exec_move _ rfl (.slice (some ⟨bb, ob, none⟩) n c9) rfl) ?_
    simp only [Act.put, s1_, s2_, s3_]
    refine qw_val (v := .int .i64 ((i : Int))) 116 rfl (by kernel_rfl) (fun w' hS => exec_move _ rfl (.int .i64 ((i : Int))) rfl) ?_
    simp only [Act.put, s1_, s2_, s3_]
    refine qw_val (v := .pointer (some ⟨bb, ob + i * 108, none⟩)) 117 rfl (by kernel_rfl) (fun w' hS => exec_indexG _ _ _ rfl _ n c9 bb ob 108 i rfl rfl rfl (by omega) (by kernel_rfl) _ (by omega)) ?_
    simp only [Act.put, s1_, s2_, s3_]
    refine qw_val (v := .pointer (some ⟨bb, ob + i * 108, none⟩)) 118 rfl (by kernel_rfl) (fun w' hS => exec_fieldG _ _ 0 0 rfl bb (ob + i * 108) rfl (by kernel_rfl) _ (by first | rfl | omega)) ?_
    simp only [Act.put, s1_, s2_, s3_]
    refine qw_val (v := .string (strOfNums y.name)) 119 rfl (by kernel_rfl) (fun w' hS => exec_load_one _ _ rfl bb (ob + i * 108) rfl _ Tryd.underlying9 rfl _ ((hS.cell (p := ⟨bb, ob + i * 108, none⟩) hbb).trans HYN.out)) ?_
    simp only [Act.put, s1_, s2_, s3_]
    refine qw_val (v := .bool false) 120 rfl (by kernel_rfl) (fun w' hS => exec_neq_name _ _ _ rfl x.name y.name rfl rfl HXB.out HYB.out false HNE.out) ?_
    simp only [Act.put, s1_, s2_, s3_]
    refine qw_val (v := .bool false) 121 rfl (by kernel_rfl) (fun w' hS => exec_pickG _ _ _ rfl false rfl _ rfl) ?_
    simp only [Act.put, s1_, s2_, s3_]
    refine qw_val (v := .bool false) 122 rfl (by kernel_rfl) (fun w' hS => exec_move _ rfl (.bool false) rfl) ?_
    simp only [Act.put, s1_, s2_, s3_]
    refine qw_val (v := .slice (some ⟨ba, oa, none⟩) n c15) 123 rfl (by kernel_rfl) (fun w' hS => exec_move _ rfl (.slice (some ⟨ba, oa, none⟩) n c15) rfl) ?_
    simp only [Act.put, s1_, s2_, s3_]
    refine qw_val (v := .int .i64 ((i : Int))) 124 rfl (by kernel_rfl) (fun w' hS => exec_move _ rfl (.int .i64 ((i : Int))) rfl) ?_
    simp only [Act.put, s1_, s2_, s3_]
    refine qw_val (v := .pointer (some ⟨ba, oa + i * 108, none⟩)) 125 rfl (by kernel_rfl) (fun w' hS => exec_indexG _ _ _ rfl _ n c15 ba oa 108 i rfl rfl rfl (by omega) (by kernel_rfl) _ (by omega)) ?_
    simp only [Act.put, s1_, s2_, s3_]
    refine qw_val (v := .pointer (some ⟨ba, oa + i * 108 + 1, none⟩)) 126 rfl (by kernel_rfl) (fun w' hS => exec_fieldG _ _ 1 1 rfl ba (oa + i * 108) rfl (by kernel_rfl) _ (by first | rfl | omega)) ?_
    simp only [Act.put, s1_, s2_, s3_]
    refine qw_val (v := .agg (capCells x.read lr).toArray) 127 rfl (by kernel_rfl) (fun w' hS => exec_loadAll _ _ rfl ba (oa + i * 108 + 1) rfl _ _ (fun j u hu => (hS.cell (p := ⟨ba, oa + i * 108 + 1 + j, none⟩) hba).trans (HXR.out j u hu)) Tryd.underlying28 rfl HXSR.out) ?_
    simp only [Act.put, s1_, s2_, s3_]
    refine qw_val (v := .slice (some ⟨bb, ob, none⟩) n c9) 128 rfl (by kernel_rfl) (fun w' hS => exec_move _ rfl (.slice (some ⟨bb, ob, none⟩) n c9) rfl) ?_
    simp only [Act.put, s1_, s2_, s3_]
    refine qw_val (v := .int .i64 ((i : Int))) 129 rfl (by kernel_rfl) (fun w' hS => exec_move _ rfl (.int .i64 ((i : Int))) rfl) ?_
    simp only [Act.put, s1_, s2_, s3_]
    refine qw_val (v := .pointer (some ⟨bb, ob + i * 108, none⟩)) 130 rfl (by kernel_rfl) (fun w' hS => exec_indexG _ _ _ rfl _ n c9 bb ob 108 i rfl rfl rfl (by omega) (by kernel_rfl) _ (by omega)) ?_
    simp only [Act.put, s1_, s2_, s3_]
    refine qw_val (v := .pointer (some ⟨bb, ob + i * 108 + 1, none⟩)) 131 rfl (by kernel_rfl) (fun w' hS => exec_fieldG _ _ 1 1 rfl bb (ob + i * 108) rfl (by kernel_rfl) _ (by first | rfl | omega)) ?_
    simp only [Act.put, s1_, s2_, s3_]
    refine qw_val (v := .agg (capCells y.read kr).toArray) 132 rfl (by kernel_rfl) (fun w' hS => exec_loadAll _ _ rfl bb (ob + i * 108 + 1) rfl _ _ (fun j u hu => (hS.cell (p := ⟨bb, ob + i * 108 + 1 + j, none⟩) hbb).trans (HYR.out j u hu)) Tryd.underlying28 rfl HYSR.out) ?_
    simp only [Act.put, s1_, s2_, s3_]
    refine qw_call (v := .bool true) 133 rfl (by kernel_rfl) 32 #[.agg (capCells x.read lr).toArray, .agg (capCells y.read kr).toArray] (fun w' => exec_call _ _ _ rfl _ (by simp [Act.eval]) (by go_simp)) (fun w' hS => HC3.out w' hS) ?_
    simp only [Act.put, s1_, s2_, s3_]
    refine qw_val (v := .bool false) 134 rfl (by kernel_rfl) (fun w' hS => exec_notG _ _ rfl true rfl _ rfl) ?_
    simp only [Act.put, s1_, s2_, s3_]
    refine qw_val (v := .bool false) 135 rfl (by kernel_rfl) (fun w' hS => exec_pickG _ _ _ rfl false rfl _ rfl) ?_
    simp only [Act.put, s1_, s2_, s3_]
    refine qw_nil ?_
    intro w17 hS
    have HB2 := hide hS
    clear hS
    go_wp2_with fail
    go_roundw
    case measure => simp [intOf]; omega
    case rel => exact ⟨i + 1, by go_num, by omega, HB2.out⟩
  obtain rfl : i = n := by omega
  have hlt' : ¬ (i : Int) < (i : Int) := by omega
  replace HE1 := hide (HE1.out.below HBL.out (by omega))
  replace HV11 := hide (HV11.out.below HBL.out (by omega))
  replace H9 := hide (H9.out.below HBL.out (by have := H9.out.lt; omega))
  replace H10 := hide (H10.out.below HBL.out (by have := H10.out.lt; omega))
  replace HB := hide (HB.out.trans (HBL.out.mono (by omega)))
  have hzr := HBL.out.size
  clear HBL HEA HEB HBE hlt hlt'
  go_wp2_with (first
   | go_skip
   | (refine wpList_cap_all _ rfl rfl rfl H10.out ?_))
  refine (Pack_any RD l6 (.slice A9 i c9) l1 wr HRD.out.1 (HL6F.out wr) (HE1.out.more (by omega)) HLT.out (by have := HN1.out; omega) ((HT.out.below HB.out (Nat.le_refl _)).more HB.out.size)).mono ?_
  rintro e w18 ⟨v18, rfl, ho18, hb18⟩
  rw [pack_no HRD.out.2.2.2 l1]
  clear ho18
  replace HE1 := hide (HE1.out.below hb18 (by omega))
  replace HV11 := hide (HV11.out.below hb18 (by omega))
  replace H9 := hide (H9.out.below hb18 H9.out.lt)
  replace H10 := hide (H10.out.below hb18 H10.out.lt)
  replace HB := hide (HB.out.trans (hb18.mono HB.out.size))
  have hz18 := hb18.size
  clear hb18
  go_wp2_with (first
   | go_skip
   | (refine wpList_cap_all _ rfl rfl rfl H9.out ?_))
  refine (VerifyOnly_any CD l3 w18 HCD.out.1 (HL3F.out w18) (by rw [HCD.out.2.1]; simp) ((HT.out.below HB.out (Nat.le_refl _)).more HB.out.size)).mono ?_
  rintro e w19 ⟨l19, rfl, hl19, hb19⟩
  obtain ⟨VD, HVDE⟩ : ∃ x, Hid (voF CD = x) := ⟨_, hide rfl⟩
  obtain ⟨VE, HVEE⟩ : ∃ x, Hid (voE CD = x) := ⟨_, hide rfl⟩
  rw [HVDE.out] at hl19 HVDX ⊢
  rw [HVEE.out]
  have HVD := hide HVDX.out
  rw [HVD.out.2.1] at hl19
  have HL19F := hide (fun (W : World) => show Bs W W.heap.size l19 VD.lit by rw [HVD.out.2.1]; exact bs_emptyV' hl19 W _)
  have HL191 := hide (bs_one_ hl19)
  clear hl19 HVDX
  replace HE1 := hide (HE1.out.below hb19 (by omega))
  replace HV11 := hide (HV11.out.below hb19 (by omega))
  replace H9 := hide (H9.out.below hb19 H9.out.lt)
  replace H10 := hide (H10.out.below hb19 H10.out.lt)
  replace HB := hide (HB.out.trans (hb19.mono HB.out.size))
  have hz19 := hb19.size
  clear hb19
  obtain ⟨g20, HG20⟩ : ∃ k, Hid (w19.heap.size = k) := ⟨_, hide rfl⟩
  have hg20 : g20 ≤ w19.heap.size ∧ w19.heap.size ≤ g20 := by have := HG20.out; omega
  have hlH9_20 : g9 < g20 := by have := H9.out.lt; omega
  have hlH10_20 : g10 < g20 := by have := H10.out.lt; omega
  go_wp2_with (first
   | go_skip
   | (refine wpList_cap_all _ rfl rfl rfl H9.out ?_)
   | (refine wpList_cap_all _ rfl rfl rfl H10.out ?_)
   | (refine wpList_cap_zero rfl rfl ?_; intro w20 hba hwa hsa; rw [HG20.out] at hba hsa; try rw [HG20.out]; have H20 := hide hba; replace HE1 := hide (HE1.out.below hwa (by omega)); replace HV11 := hide (HV11.out.below hwa (by omega)); replace H9 := hide (H9.out.below hwa H9.out.lt); replace H10 := hide (H10.out.below hwa H10.out.lt); replace HB := hide (HB.out.trans (hwa.mono HB.out.size)); have hzw20 := hwa.size; clear hba hwa)
   | (refine wpList_cap_putAll _ _ rfl rfl rfl H20.out VD l19 rfl HVD.out.1.keyL HVD.out.1.fpL HL191.out ?_; intro w21 hbs hgs hss; replace HE1 := hide (HE1.out.below ((Below.refl B9 _).grown hgs (by omega) (by intro k hk; injection hk; omega)) (Nat.le_refl _)); replace HV11 := hide (HV11.out.below ((Below.refl B11 _).grown hgs (by omega) (by intro k hk; injection hk; omega)) (Nat.le_refl _)); replace H9 := hide (H9.out.grown hgs (by intro e; injection e; omega)); replace H10 := hide (H10.out.grown hgs (by intro e; injection e; omega)); replace HB := hide (HB.out.grown hgs HB.out.size (by intro k hk; injection hk; omega)); replace H20 := hide hbs; have hzw21 := hss; clear hbs hgs hss)
   | (refine wpList_cap_all _ rfl rfl rfl H20.out ?_))
  refine (Unpack_any VD l19 v11 PL w21 HVD.out.1 (HL19F.out w21) (HV11.out.more (by omega)) HPB.out HPL.out ((HT.out.below HB.out (Nat.le_refl _)).more HB.out.size)).mono ?_
  rintro e w22 ⟨v22, rfl, ho22, hb22⟩
  rw [(unp_no HVD.out.2.2 PL).1]
  clear ho22
  replace HE1 := hide (HE1.out.below hb22 (by omega))
  replace HV11 := hide (HV11.out.below hb22 (by omega))
  replace H9 := hide (H9.out.below hb22 H9.out.lt)
  replace H10 := hide (H10.out.below hb22 H10.out.lt)
  replace H20 := hide (H20.out.below hb22 H20.out.lt)
  replace HB := hide (HB.out.trans (hb22.mono HB.out.size))
  have hz22 := hb22.size
  clear hb22
  go_wp2_with (first
   | go_skip)
  refine (wakes23 w22 ((HT.out.below HB.out (Nat.le_refl _)).more HB.out.size)).mono ?_
  rintro e w23 ⟨rfl, hb23⟩
  replace HE1 := hide (HE1.out.below hb23 (by omega))
  replace HV11 := hide (HV11.out.below hb23 (by omega))
  replace H9 := hide (H9.out.below hb23 H9.out.lt)
  replace H10 := hide (H10.out.below hb23 H10.out.lt)
  replace H20 := hide (H20.out.below hb23 H20.out.lt)
  replace HB := hide (HB.out.trans (hb23.mono HB.out.size))
  have hz23 := hb23.size
  clear hb23
  go_wp2_with go_skip
  go_ret
  exact ⟨rfl, HB.out⟩
set_option maxRecDepth 100000 in
theorem lifted (os : Os) (started : os.Started) (H : Type) (enc : TypeId × Value → H) :
 ReturnsInHanded {} Tryd.checked os 8 .any (fun w args => (Rows.dirsBackSpec.pre enc Tryd.prog Tryd.f8 [] false w args ∧ laidMetH Tryd.prog laidD w) ∧ sizedMet enc Tryd.prog Tryd.f8 (OpenSpec.ofChange Rows.dirsBackSpec) false w args)
  (Rows.dirsBackSpec.post enc Tryd.prog Tryd.f8 false true false false) := by
 refine returnsInHanded_of_change_and (C := Tryd.checked) (X := fun w _ => laidMetH Tryd.prog laidD w) (fun _ _ _ hh h => h.of_heap hh) own started (by kernel_rfl) Tryd.func8
  (ChangeSpec.witness_shaped (enc := enc) (C := Tryd.checked) (os := os) (X := fun w _ => laidMetH Tryd.prog laidD w) false (World.doorLaid Tryd.prog doorSteps os) #[.agg #[.int .u8 0, .int .u8 0, .int .u8 0, .int .u8 0, .int .u8 0, .int .u8 0, .int .u8 0, .int .u8 0, .int .u8 0, .int .u8 0, .int .u8 0, .int .u8 0, .int .u8 0, .int .u8 0, .int .u8 0, .int .u8 0], .agg #[.int .u8 0, .int .u8 0, .int .u8 0, .int .u8 0, .int .u8 0, .int .u8 0, .int .u8 0, .int .u8 0, .int .u8 0, .int .u8 0, .int .u8 0, .int .u8 0, .int .u8 0, .int .u8 0, .int .u8 0, .int .u8 0, .int .u8 0, .int .u8 0, .int .u8 0, .int .u8 0, .int .u8 0, .int .u8 0, .int .u8 0, .int .u8 0, .int .u8 0, .int .u8 0, .int .u8 0, .int .u8 0, .int .u8 0, .int .u8 0, .int .u8 0, .int .u8 0], .slice none 0 0] 8 rfl (World.shaped_of_RefB (by kernel_rfl) (by kernel_rfl)) (by kernel_rfl) (by kernel_rfl) (by kernel_rfl) (door_met os _)) ?_
 intro W base args ds gs before hval0 hW _ _ hL _
 have hT := tab_of hL
 have hval : ∀ (j : Nat) t v, Tryd.f8.params[j]? = some t → args[j]? = some v → Value.okWide Tryd.prog W .any base t v := hval0
 have hW' := hW
 obtain ⟨p, q, hA0, hV, rfl, hfz, hnd⟩ := hW
 have hA : DataW.TrodAll enc Tryd.prog W 0 (fun _ => true) true Tryd.f8.params.toList args.toList ds p := hA0
 rw [Tryd.params8] at hA hval
 obtain ⟨v0, vs0, d0, ds0, p0, q0, hargs, rfl, rfl, h0, r0⟩ := trodAll_cons hA
 obtain ⟨v1, vs1, d1, ds1, p1, q1, rfl, rfl, rfl, h1, r1⟩ := trodAll_cons r0
 obtain ⟨v2, vs2, d2, ds2, p2, q2, rfl, rfl, rfl, h2, r2⟩ := trodAll_cons r1
 obtain ⟨rfl, rfl, rfl⟩ := trodAll_nil r2
 obtain rfl : args = #[v0, v1, v2] := by cases args; simp_all
 obtain ⟨rfl, rfl⟩ := trodVars_none hV
 have k0 := h0
 have lt0 : ∀ x ∈ p0, x.block < W.heap.size := by obtain ⟨m, hm⟩ := k0; exact DataW.trod_lt m _ _ _ hm
 obtain ⟨z0, rfl, w0, b0⟩ := read_arr16_key (hval 0 23 v0 rfl rfl) h0
 have k1 := h1
 have lt1 : ∀ x ∈ p1, x.block < W.heap.size := by obtain ⟨m, hm⟩ := k1; exact DataW.trod_lt m _ _ _ hm
 obtain ⟨z1, rfl, w1, b1⟩ := read_hash_hash (hval 1 25 v1 rfl rfl) h1
 have k2 := h2
 have lt2 : ∀ x ∈ p2, x.block < W.heap.size := by obtain ⟨m, hm⟩ := k2; exact DataW.trod_lt m _ _ _ hm
 obtain ⟨z2, w2, b2⟩ := read_ents (hval 2 29 v2 rfl rfl) h2
 clear hA0 hval0
 refine (walk W hT z0 w0 b0 z1 w1 b1 v2 z2 w2 b2).mono fun e W' ⟨he, bel⟩ => ?_
 subst he
 exact ⟨_, rfl, _, _, _, [], _, [], hW', trodAll_mk1 (shut_bool Tryd.underlying4 _), (trodAll_cons_mk (Below.trod laidOut (by kernel_rfl) (of_decide_eq_true (by kernel_rfl)) k0 bel lt0) (trodAll_cons_mk (Below.trod laidOut (by kernel_rfl) (of_decide_eq_true (by kernel_rfl)) k1 bel lt1) (trodAll_cons_mk (Below.trod laidOut (by kernel_rfl) (of_decide_eq_true (by kernel_rfl)) k2 bel lt2) trodAll_mk0))), rfl, bel.frame _, fun h => by cases h⟩

theorem over : Rows.dirsBackRow.holds Tryd.pinned (OpenSpec.ofChange Rows.dirsBackSpec) :=
 OpenClaim.holds_of_wide 8 Tryd.f8 rfl rfl rfl rfl rfl rfl rfl ⟨rfl, rfl, rfl, rfl, rfl⟩ rfl rfl rfl rfl rfl (by kernel_rfl) Tryd.func8 (by kernel_rfl)
  (of_decide_eq_true (by kernel_rfl)) (by unfold Func.isWrapper; rw [if_neg (of_decide_eq_false (by kernel_rfl))]; exact ⟨rfl, rfl⟩)
  (fun os started H enc _ => lifted os started H enc)

theorem proved : Rows.DirsBackCardSaid :=
 Claim7.holds_tied_plain_at .later [] Rows.dirsBackCard.laidKinds true Rows.dirsBackCard.stood.harness Rows.dirsBackCard.stood.looks
  over (fun _ h => by cases h) (by kernel_rfl) (fun _ h => by cases h) dirsBack_row_tie rfl ⟨rfl, rfl⟩ (by kernel_rfl) rfl
  (fun f fn hf hfn => by
   obtain rfl : f = 8 := Option.some.inj ((show Tryd.prog.funcNamed "aumbry/aumbrylaw23.DirsBack" = some 8 by kernel_rfl).symm.trans hf) |>.symm
   obtain rfl : fn = Tryd.f8 := (Option.some.inj (Tryd.func8.symm.trans hfn)).symm
   exact ⟨by kernel_rfl, fun j t ht => by
    have ht' : Tryd.f8.params[j]? = some t := ht
    rw [Tryd.params8] at ht'
    have hm : t ∈ [23, 25, 29] := by simpa using Array.mem_of_getElem? ht'
    have hall : ([23, 25, 29].all fun u => !Tryd.prog.wantsStandIn u) = true := by kernel_rfl
    exact (show Tryd.prog.wantsStandIn t = false by simpa using List.all_eq_true.1 hall t hm)⟩)
  (by kernel_rfl)
end Go.Proofs.YthdjgebbjogmiaaDoor.LawDirsBack
