/-
DirsRows holds: what is set is found, what is removed is not; rows stay right; set twice it is there once. Conditions: none but the row's own.
-/
import Derived.Test.YthdjgebbjogmiaaDoorJoin20
import Derived.Test.YthdjgebbjogmiaaDoorEntRight
import Derived.Test.YthdjgebbjogmiaaDoorJoin25
import Derived.Test.YthdjgebbjogmiaaDoorDirSet
import Derived.Test.YthdjgebbjogmiaaDoorJoin26
import Derived.Test.YthdjgebbjogmiaaDoorKeepEnts
import Derived.Test.YthdjgebbjogmiaaDoorJoin23
import Derived.Test.YthdjgebbjogmiaaDoorJoin24
import Derived.Test.YthdjgebbjogmiaaDoorTied
namespace Go.Proofs.YthdjgebbjogmiaaDoor.LawDirsRows
open Go Go.RowKit Go.ChangeShapes Go.WideShapes Go.ChangeAt
set_option linter.unusedVariables false
set_option linter.unusedSimpArgs false
set_option maxRecDepth 100000
set_option maxHeartbeats 16000000 in
theorem walk (w : World) (ht : Tab w w.heap.size) (v : Value) (l : List EntD) (hv : EntsB w w.heap.size v l) (hin : ∀ e ∈ l, e.In) (nm : List Int) (hnb : Bytes nm) (hs : (strOfNums nm).size ≤ maxLen) (c : CapD) (lit : Value) (hc : c.In) (hl : Bs w w.heap.size lit c.lit) :
 Calls Tryd.prog 6 #[v, .string (strOfNums nm), capV c lit] w fun e w' => e = .returned (.bool true) ∧ Below w.heap.size w w' := by
 have HT := hide ht
 have HC := hide hc.toWf
 have hl1 := bs_one_ hl
 have HV := hide hv
 have HIN := hide hin
 have HNB := hide hnb
 have HWFL := hide (fun (e : EntD) (he : e ∈ l) => (hin e he).wf)
 have hnl : nm.length ≤ maxLen := by rw [strOfNums_size] at hs; exact hs
 unfold maxLen at hnl
 obtain ⟨g5, HG5⟩ : ∃ k, Hid (w.heap.size = k) := ⟨_, hide rfl⟩
 have hg5 : g5 ≤ w.heap.size ∧ w.heap.size ≤ g5 := by have := HG5.out; omega
 clear hc hl hv hin ht hs hnb
 go_enter Tryd.func6, Tryd.ntmps6
 go_wp2_with (first
  | (refine wpList_cap_new (c := c) (lit := lit) _ rfl rfl rfl HC.out.keyL HC.out.fpL hl1 ?_; intro w1 hb1 hw1 hs1; rw [HG5.out] at hb1; try rw [HG5.out]; have H5 := hide hb1; have HB := hide hw1; have hz1 := hw1.size; clear hb1 hw1 hs1))
 refine (entright_any v l w1 ((HV.out.below HB.out (Nat.le_refl _)).more HB.out.size) HIN.out).mono ?_
 rintro e w2 ⟨v2, rfl, ho2, hb2⟩
 have HO2 := hide (ho2.reads hb2.size)
 clear ho2
 replace H5 := hide (H5.out.below hb2 H5.out.lt)
 replace HB := hide (HB.out.trans (hb2.mono HB.out.size))
 have hz2 := hb2.size
 clear hb2
 obtain ⟨l1, HL1⟩ : ∃ x, Hid (rightsL l = x) := ⟨_, hide rfl⟩
 have HR1 := hide (show rightB l1 = true by rw [← HL1.out]; exact rights_right l)
 have HN1 := hide (show l1.length ≤ 6 by rw [← HL1.out]; unfold rightsL; rw [rightsN_len]; omega)
 have HLT := hide (show ∀ x ∈ l1, x.read.lit.length ≤ 1000000 ∧ x.write.lit.length ≤ 1000000 by rw [← HL1.out]; exact rights_lit)
 rw [HL1.out] at HO2
 obtain ⟨B2, HBd2⟩ : ∃ k, Hid (w2.heap.size = k) := ⟨_, hide rfl⟩
 have hBd2 : B2 ≤ w2.heap.size ∧ w2.heap.size ≤ B2 := by have := HBd2.out; omega
 have HE1 := hide (show EntsB w2 B2 v2 l1 from (HO2.out).more hBd2.2)
 clear HO2 HL1
 by_cases h1 : nm.length < 1
 · have i1 : decide ((nm.length : Int) < 1) = true := decide_eq_true (by omega)
   go_wp2_with (first
    | go_skip
    | (refine wpList_val_ rfl (exec_len_strM _ rfl nm rfl) ?_))
   refine (wakes23 w2 ((HT.out.below HB.out (Nat.le_refl _)).more HB.out.size)).mono ?_
   rintro e w3 ⟨rfl, hb3⟩
   replace HE1 := hide (HE1.out.below hb3 (by omega))
   replace H5 := hide (H5.out.below hb3 H5.out.lt)
   replace HB := hide (HB.out.trans (hb3.mono HB.out.size))
   have hz3 := hb3.size
   clear hb3
   go_wp2_with go_skip
   go_ret
   exact ⟨rfl, HB.out⟩
 have i1 : decide ((nm.length : Int) < 1) = false := decide_eq_false (by omega)
 by_cases h60 : 60 < nm.length
 · have i2 : decide ((60 : Int) < (nm.length : Int)) = true := decide_eq_true (by omega)
   go_wp2_with (first
    | go_skip
    | (refine wpList_val_ rfl (exec_len_strM _ rfl nm rfl) ?_))
   refine (wakes23 w2 ((HT.out.below HB.out (Nat.le_refl _)).more HB.out.size)).mono ?_
   rintro e w3 ⟨rfl, hb3⟩
   replace HE1 := hide (HE1.out.below hb3 (by omega))
   replace H5 := hide (H5.out.below hb3 H5.out.lt)
   replace HB := hide (HB.out.trans (hb3.mono HB.out.size))
   have hz3 := hb3.size
   clear hb3
   go_wp2_with go_skip
   go_ret
   exact ⟨rfl, HB.out⟩
 have i2 : decide ((60 : Int) < (nm.length : Int)) = false := decide_eq_false (by omega)
 have HONE := hide (rowsEnt_one (nm := nm) (key := c.key) (fp := c.fp) (by omega) (by omega))
 have HEW := hide (rowsEnt_wf (nm := nm) (key := c.key) HNB.out HC.out.fpL HC.out.fpB)
 have HEL := hide (rowsEnt_lit nm c.key c.fp)
 have HROL := hide (roF_slot_lit c.key c.fp)
 have HSW := hide (slotF_wf (k := c.key) HC.out.fpL HC.out.fpB)
 have HRW := hide (roF_wf HSW.out)
 obtain ⟨e0, HE0⟩ : ∃ x, Hid (rowsEnt nm c.key c.fp = x) := ⟨_, hide rfl⟩
 have HNME := hide (show e0.name = nm by rw [← HE0.out]; rfl)
 rw [HE0.out] at HONE HEW HEL
 have HSET := hide (set_right HR1.out (by have := HN1.out; omega) HONE.out)
 have HTWI := hide (set_twice HR1.out (by have := HN1.out; omega) HONE.out)
 have HRI := hide (right_ins HR1.out (by have := HN1.out; omega) HONE.out)
 have HFI := hide (find_ins ((rightB_iff l1).1 HR1.out).2.1 e0)
 have HREM := hide (rem_right HR1.out (by have := HN1.out; omega) HONE.out)
 have HLEN := hide (ins_length ((rightB_iff l1).1 HR1.out).2.1 e0)
 have HINL := hide (show (insG e0 false l1).length ≤ 7 by have := insG_length e0 false l1; have := HN1.out; simp at *; omega)
 have HIL := hide (ins_lit HLT.out HEL.out)
 obtain ⟨a, HA⟩ : ∃ x, Hid (insG e0 false l1 = x) := ⟨_, hide rfl⟩
 rw [HNME.out] at HFI HREM HLEN
 rw [HA.out] at HSET HTWI HRI HFI HREM HLEN HINL HIL
 have HAGN := hide (rem_again (nm := nm) HRI.out)
 have HRR := hide (right_rem (nm := nm) HRI.out)
 have HFR := hide (find_rem a nm)
 have HRL := hide (rem_lit (nm := nm) HIL.out)
 obtain ⟨d, HD⟩ : ∃ x, Hid (remL a nm = x) := ⟨_, hide rfl⟩
 rw [HD.out] at HREM HLEN HAGN HRR HFR HRL
 have HDN := hide (show d.length + 1 ≤ 7 by have := HLEN.out; have := HINL.out; omega)
 have HLX := hide (show LenE (⟨nm, CapD.none_, CapD.none_, false⟩ : EntD) ∧ LenW (⟨nm, CapD.none_, CapD.none_, false⟩ : EntD) from ⟨⟨rfl, rfl⟩, ⟨rfl, rfl⟩⟩)
 have HBE := hide (show Tryd.prog.built 45 [(0, .string (strOfNums nm))] = some (entC (⟨nm, CapD.none_, CapD.none_, false⟩ : EntD) (.slice none 0 0) (.slice none 0 0)).toArray from built_entN _)
 clear h1 h60
 obtain ⟨g7, HG7⟩ : ∃ k, Hid (w2.heap.size = k) := ⟨_, hide rfl⟩
 have hg7 : g7 ≤ w2.heap.size ∧ w2.heap.size ≤ g7 := by have := HG7.out; omega
 have hlH5_7 : g5 < g7 := by have := H5.out.lt; omega
 go_wp2_with (first
  | go_skip
  | (refine wpList_val_ rfl (exec_len_strM _ rfl nm rfl) ?_)
  | (refine wpList_st_build1 45 0 _ rfl rfl (.string (strOfNums nm)) rfl (entC (⟨nm, CapD.none_, CapD.none_, false⟩ : EntD) (.slice none 0 0) (.slice none 0 0)) HBE.out ?_)
  | (refine wpList_alloc_blk rfl 45 rfl _ zero_ent ?_; intro w3 hba hwa hsa; rw [HG7.out] at hba hsa; try rw [HG7.out]; have H7 := hide hba; replace HE1 := hide (HE1.out.below hwa (by omega)); replace H5 := hide (H5.out.below hwa H5.out.lt); replace HB := hide (HB.out.trans (hwa.mono HB.out.size)); have hzw3 := hwa.size; clear hba hwa)
  | (refine wpList_st_putAll _ _ _ rfl rfl rfl H7.out (entC (⟨nm, CapD.none_, CapD.none_, false⟩ : EntD) (.slice none 0 0) (.slice none 0 0)) rfl (by rw [ent_lenL none_LE.1 none_LE.2, ent_lenL HLX.out.1 HLX.out.2]) (size_entL HLX.out.1 HLX.out.2) (ent_oneL rfl rfl) ?_; intro w4 hbs hgs hss; replace HE1 := hide (HE1.out.below ((Below.refl B2 _).grown hgs (by omega) (by intro k hk; injection hk; omega)) (Nat.le_refl _)); replace H5 := hide (H5.out.grown hgs (by intro e; injection e; omega)); replace HB := hide (HB.out.grown hgs HB.out.size (by intro k hk; injection hk; omega)); replace H7 := hide hbs; have hzw4 := hss; clear hbs hgs hss)
  | (refine wpList_cap_key _ rfl rfl rfl H5.out ?_)
  | (refine wpList_cap_fp _ rfl rfl rfl H5.out ?_))
 refine (Slot_any c.key c.fp w4 HC.out.keyL HC.out.keyB HC.out.fpL ((HT.out.below HB.out (Nat.le_refl _)).more HB.out.size)).mono ?_
 rintro e w5 ⟨rfl, hb5⟩
 replace HE1 := hide (HE1.out.below hb5 (by omega))
 replace H5 := hide (H5.out.below hb5 H5.out.lt)
 replace H7 := hide (H7.out.below hb5 H7.out.lt)
 replace HB := hide (HB.out.trans (hb5.mono HB.out.size))
 have hz5 := hb5.size
 clear hb5
 obtain ⟨g8, HG8⟩ : ∃ k, Hid (w5.heap.size = k) := ⟨_, hide rfl⟩
 have hg8 : g8 ≤ w5.heap.size ∧ w5.heap.size ≤ g8 := by have := HG8.out; omega
 have hlH5_8 : g5 < g8 := by have := H5.out.lt; omega
 have hlH7_8 : g7 < g8 := by have := H7.out.lt; omega
 go_wp2_with (first
  | go_skip
  | (refine wpList_cap_zero rfl rfl ?_; intro w6 hba hwa hsa; rw [HG8.out] at hba hsa; try rw [HG8.out]; have H8 := hide hba; replace HE1 := hide (HE1.out.below hwa (by omega)); replace H5 := hide (H5.out.below hwa H5.out.lt); replace H7 := hide (H7.out.below hwa H7.out.lt); replace HB := hide (HB.out.trans (hwa.mono HB.out.size)); have hzw6 := hwa.size; clear hba hwa)
  | (refine wpList_cap_putAll _ _ rfl rfl rfl H8.out (slotF c.key c.fp) (.slice none 0 0) rfl HSW.out.keyL HSW.out.fpL rfl ?_; intro w7 hbs hgs hss; replace HE1 := hide (HE1.out.below ((Below.refl B2 _).grown hgs (by omega) (by intro k hk; injection hk; omega)) (Nat.le_refl _)); replace H5 := hide (H5.out.grown hgs (by intro e; injection e; omega)); replace H7 := hide (H7.out.grown hgs (by intro e; injection e; omega)); replace HB := hide (HB.out.grown hgs HB.out.size (by intro k hk; injection hk; omega)); replace H8 := hide hbs; have hzw7 := hss; clear hbs hgs hss)
  | (refine wpList_cap_all _ rfl rfl rfl H8.out ?_))
 refine (ReadOnly_any (slotF c.key c.fp) (.slice none 0 0) w7 HSW.out (Bs.nil_ _ _) (by show ([] : List Int).length ≤ _; simp) ((HT.out.below HB.out (Nat.le_refl _)).more HB.out.size)).mono ?_
 rintro e w8 ⟨lr, rfl, hlr, hb8⟩
 have HLR := hide (bs_emptyV hlr HROL.out)
 have HLR1 := hide (bs_one_ hlr)
 clear hlr
 replace HE1 := hide (HE1.out.below hb8 (by omega))
 replace H5 := hide (H5.out.below hb8 H5.out.lt)
 replace H7 := hide (H7.out.below hb8 H7.out.lt)
 replace H8 := hide (H8.out.below hb8 H8.out.lt)
 replace HB := hide (HB.out.trans (hb8.mono HB.out.size))
 have hz8 := hb8.size
 clear hb8
 have HLR_ := hide (show LenE ({ (⟨nm, CapD.none_, CapD.none_, false⟩ : EntD) with read := roF (slotF c.key c.fp) } : EntD) ∧ LenW ({ (⟨nm, CapD.none_, CapD.none_, false⟩ : EntD) with read := roF (slotF c.key c.fp) } : EntD) from ⟨⟨HRW.out.keyL, HRW.out.fpL⟩, ⟨rfl, rfl⟩⟩)
 have HLW_ := hide (show LenE ({ ({ (⟨nm, CapD.none_, CapD.none_, false⟩ : EntD) with read := roF (slotF c.key c.fp) } : EntD) with write := (slotF c.key c.fp) } : EntD) ∧ LenW ({ ({ (⟨nm, CapD.none_, CapD.none_, false⟩ : EntD) with read := roF (slotF c.key c.fp) } : EntD) with write := (slotF c.key c.fp) } : EntD) from ⟨⟨HRW.out.keyL, HRW.out.fpL⟩, ⟨HSW.out.keyL, HSW.out.fpL⟩⟩)
 have HFE := hide (show ({ ({ ({ (⟨nm, CapD.none_, CapD.none_, false⟩ : EntD) with read := roF (slotF c.key c.fp) } : EntD) with write := (slotF c.key c.fp) } : EntD) with has := true } : EntD) = e0 from HE0.out)
 have HSZE := hide (show (Tryd.prog.info? 45).map (·.size) = some (entC e0 lr (.slice none 0 0)).length from size_entL HEW.out.lens.1 HEW.out.lens.2)
 go_wp2_with (first
  | go_skip
  | (refine wpList_store_blk rfl 28 _ _ rfl g7 1 (capCells (roF (slotF c.key c.fp)) lr) rfl rfl _ _ H7.out (by rw [ent_lenL HLX.out.1 HLX.out.2, cc_len lr HRW.out.keyL HRW.out.fpL]; omega) (size_capL HRW.out.keyL HRW.out.fpL) (cap_ones HLR1.out) ?_; intro w9 hbs hgs hss; rw [ent_setRead HLX.out.1 (roF (slotF c.key c.fp)) lr HRW.out.keyL HRW.out.fpL] at hbs; replace HE1 := hide (HE1.out.below ((Below.refl B2 _).grown hgs (by omega) (by intro k hk; injection hk; omega)) (Nat.le_refl _)); replace H5 := hide (H5.out.grown hgs (by intro e; injection e; omega)); replace H8 := hide (H8.out.grown hgs (by intro e; injection e; omega)); replace HB := hide (HB.out.grown hgs HB.out.size (by intro k hk; injection hk; omega)); replace H7 := hide hbs; have hzw9 := hss; clear hbs hgs hss)
  | (refine wpList_cap_all _ rfl rfl rfl H8.out ?_)
  | (refine wpList_store_blk rfl 28 _ _ rfl g7 54 (capCells (slotF c.key c.fp) (.slice none 0 0)) rfl rfl _ _ H7.out (by rw [ent_lenL HLR_.out.1 HLR_.out.2, cc_len (.slice none 0 0) HSW.out.keyL HSW.out.fpL]; omega) (size_capL HSW.out.keyL HSW.out.fpL) (cap_ones rfl) ?_; intro w10 hbs hgs hss; rw [ent_setWrite HLR_.out.1 HLR_.out.2 (slotF c.key c.fp) (.slice none 0 0) HSW.out.keyL HSW.out.fpL] at hbs; replace HE1 := hide (HE1.out.below ((Below.refl B2 _).grown hgs (by omega) (by intro k hk; injection hk; omega)) (Nat.le_refl _)); replace H5 := hide (H5.out.grown hgs (by intro e; injection e; omega)); replace H8 := hide (H8.out.grown hgs (by intro e; injection e; omega)); replace HB := hide (HB.out.grown hgs HB.out.size (by intro k hk; injection hk; omega)); replace H7 := hide hbs; have hzw10 := hss; clear hbs hgs hss)
  | (refine wpList_st_put 4 _ _ rfl 107 rfl rfl H7.out (by rw [ent_lenL HLW_.out.1 HLW_.out.2]; omega) (.bool true) rfl rfl (by kernel_rfl) ?_; intro w11 hbs hgs hss; rw [ent_setHas HLW_.out.1 HLW_.out.2 true, HFE.out] at hbs; replace HE1 := hide (HE1.out.below ((Below.refl B2 _).grown hgs (by omega) (by intro k hk; injection hk; omega)) (Nat.le_refl _)); replace H5 := hide (H5.out.grown hgs (by intro e; injection e; omega)); replace H8 := hide (H8.out.grown hgs (by intro e; injection e; omega)); replace HB := hide (HB.out.grown hgs HB.out.size (by intro k hk; injection hk; omega)); replace H7 := hide hbs; have hzw11 := hss; clear hbs hgs hss)
  | (refine wpList_st_all 45 _ rfl rfl rfl H7.out _ Tryd.underlying45 rfl HSZE.out ?_))
 have HOK := hide (fun (W : World) => show EntOk W W.heap.size e0 lr (.slice none 0 0) from { HEW.out with r1 := (by rw [← HE0.out] at *; exact HLR.out W _), w1 := (by rw [← HE0.out]; exact Bs.nil_ _ _) })
 refine (dset_any v2 l1 e0 lr (.slice none 0 0) w11 (HE1.out.more (by omega)) (HOK.out w11) HLT.out HEL.out (by have := HN1.out; omega) ((HT.out.below HB.out (Nat.le_refl _)).more HB.out.size)).mono ?_
 rintro e w12 ⟨v12, rfl, ho12, hb12⟩
 have HO12 := hide (ho12.reads hb12.size)
 clear ho12
 rw [HSET.out.1]
 rw [HSET.out.2] at HO12
 replace HE1 := hide (HE1.out.below hb12 (by omega))
 replace H5 := hide (H5.out.below hb12 H5.out.lt)
 replace H7 := hide (H7.out.below hb12 H7.out.lt)
 replace H8 := hide (H8.out.below hb12 H8.out.lt)
 replace HB := hide (HB.out.trans (hb12.mono HB.out.size))
 have hz12 := hb12.size
 clear hb12
 obtain ⟨B12, HBd12⟩ : ∃ k, Hid (w12.heap.size = k) := ⟨_, hide rfl⟩
 have hBd12 : B12 ≤ w12.heap.size ∧ w12.heap.size ≤ B12 := by have := HBd12.out; omega
 have HEA := hide (show EntsB w12 B12 v12 a from (HO12.out).more hBd12.2)
 clear HO12
 go_wp2_with (first
  | go_skip
  | (refine wpList_st_all 45 _ rfl rfl rfl H7.out _ Tryd.underlying45 rfl HSZE.out ?_))
 refine (dset_any v12 a e0 lr (.slice none 0 0) w12 (HEA.out.more (by omega)) (HOK.out w12) HIL.out HEL.out (by have := HINL.out; omega) ((HT.out.below HB.out (Nat.le_refl _)).more HB.out.size)).mono ?_
 rintro e w13 ⟨v13, rfl, ho13, hb13⟩
 have HO13 := hide (ho13.reads hb13.size)
 clear ho13
 rw [HTWI.out.1]
 rw [HTWI.out.2] at HO13
 replace HE1 := hide (HE1.out.below hb13 (by omega))
 replace HEA := hide (HEA.out.below hb13 (by omega))
 replace H5 := hide (H5.out.below hb13 H5.out.lt)
 replace H7 := hide (H7.out.below hb13 H7.out.lt)
 replace H8 := hide (H8.out.below hb13 H8.out.lt)
 replace HB := hide (HB.out.trans (hb13.mono HB.out.size))
 have hz13 := hb13.size
 clear hb13
 obtain ⟨B13, HBd13⟩ : ∃ k, Hid (w13.heap.size = k) := ⟨_, hide rfl⟩
 have hBd13 : B13 ≤ w13.heap.size ∧ w13.heap.size ≤ B13 := by have := HBd13.out; omega
 have HEB := hide (show EntsB w13 B13 v13 a from (HO13.out).more hBd13.2)
 clear HO13
 go_wp2_with (first
  | go_skip)
 refine (keep_ents v12 v13 a a w13 w13.heap.size (Nat.le_refl _) (HEA.out.more (by omega)) (HEB.out.more (by omega))).mono ?_
 rintro e w14 ⟨rfl, hb14⟩
 rw [(entsEq_iff a a).2 rfl]
 replace HE1 := hide (HE1.out.below hb14 (by omega))
 replace HEA := hide (HEA.out.below hb14 (by omega))
 replace HEB := hide (HEB.out.below hb14 (by omega))
 replace H5 := hide (H5.out.below hb14 H5.out.lt)
 replace H7 := hide (H7.out.below hb14 H7.out.lt)
 replace H8 := hide (H8.out.below hb14 H8.out.lt)
 replace HB := hide (HB.out.trans (hb14.mono HB.out.size))
 have hz14 := hb14.size
 clear hb14
 go_wp2_with (first
  | go_skip)
 refine (dright_any v12 a w14 (HEA.out.more (by omega)) HIL.out (by have := HINL.out; omega) ((HT.out.below HB.out (Nat.le_refl _)).more HB.out.size)).mono ?_
 rintro e w15 ⟨rfl, hb15⟩
 rw [HRI.out]
 replace HE1 := hide (HE1.out.below hb15 (by omega))
 replace HEA := hide (HEA.out.below hb15 (by omega))
 replace HEB := hide (HEB.out.below hb15 (by omega))
 replace H5 := hide (H5.out.below hb15 H5.out.lt)
 replace H7 := hide (H7.out.below hb15 H7.out.lt)
 replace H8 := hide (H8.out.below hb15 H8.out.lt)
 replace HB := hide (HB.out.trans (hb15.mono HB.out.size))
 have hz15 := hb15.size
 clear hb15
 go_wp2_with (first
  | go_skip)
 refine (dfind_any v12 a nm w15 (HEA.out.more (by omega)) HNB.out HIL.out (by have := HINL.out; omega)).mono ?_
 rintro e w16 (⟨x, lx, ly, hx, rfl, hrx, hry, hxw, hb16⟩ | ⟨hx, _, _⟩)
 case inr => rw [HFI.out] at hx; cases hx
 have hxe : x = e0 := by rw [HFI.out] at hx; injection hx with hx; exact hx.symm
 subst hxe
 have HXR := hide hrx.reads
 have HXW := hide hry.reads
 have HX1 := hide (And.intro (bs_one_ hrx.reads) (bs_one_ hry.reads))
 clear hx hrx hry hxw
 replace HE1 := hide (HE1.out.below hb16 (by omega))
 replace HEA := hide (HEA.out.below hb16 (by omega))
 replace HEB := hide (HEB.out.below hb16 (by omega))
 replace H5 := hide (H5.out.below hb16 H5.out.lt)
 replace H7 := hide (H7.out.below hb16 H7.out.lt)
 replace H8 := hide (H8.out.below hb16 H8.out.lt)
 replace HB := hide (HB.out.trans (hb16.mono HB.out.size))
 have hz16 := hb16.size
 clear hb16
 have hX16 := w16.heap.size
 obtain ⟨g13, HG13⟩ : ∃ k, Hid (w16.heap.size = k) := ⟨_, hide rfl⟩
 have hg13 : g13 ≤ w16.heap.size ∧ w16.heap.size ≤ g13 := by have := HG13.out; omega
 have hlH5_13 : g5 < g13 := by have := H5.out.lt; omega
 have hlH7_13 : g7 < g13 := by have := H7.out.lt; omega
 have hlH8_13 : g8 < g13 := by have := H8.out.lt; omega
 replace HXR := hide (HXR.out.more hg13.2)
 replace HXW := hide (HXW.out.more hg13.2)
 go_wp2_with (first
  | go_skip
  | (refine wpList_alloc_blk rfl 45 rfl _ zero_ent ?_; intro w17 hba hwa hsa; rw [HG13.out] at hba hsa; try rw [HG13.out]; have H13 := hide hba; replace HE1 := hide (HE1.out.below hwa (by omega)); replace HEA := hide (HEA.out.below hwa (by omega)); replace HEB := hide (HEB.out.below hwa (by omega)); replace H5 := hide (H5.out.below hwa H5.out.lt); replace H7 := hide (H7.out.below hwa H7.out.lt); replace H8 := hide (H8.out.below hwa H8.out.lt); replace HB := hide (HB.out.trans (hwa.mono HB.out.size)); replace HXR := hide (HXR.out.below hwa hg13.1); replace HXW := hide (HXW.out.below hwa hg13.1); have hzw17 := hwa.size; clear hba hwa)
  | (refine wpList_st_putAll _ _ _ rfl rfl rfl H13.out (entC x lx ly) rfl (by rw [ent_lenL none_LE.1 none_LE.2, ent_lenL HEW.out.lens.1 HEW.out.lens.2]) (size_entL HEW.out.lens.1 HEW.out.lens.2) (ent_oneL HX1.out.1 HX1.out.2) ?_; intro w18 hbs hgs hss; replace HE1 := hide (HE1.out.below ((Below.refl B2 _).grown hgs (by omega) (by intro k hk; injection hk; omega)) (Nat.le_refl _)); replace HEA := hide (HEA.out.below ((Below.refl B12 _).grown hgs (by omega) (by intro k hk; injection hk; omega)) (Nat.le_refl _)); replace HEB := hide (HEB.out.below ((Below.refl B13 _).grown hgs (by omega) (by intro k hk; injection hk; omega)) (Nat.le_refl _)); replace H5 := hide (H5.out.grown hgs (by intro e; injection e; omega)); replace H7 := hide (H7.out.grown hgs (by intro e; injection e; omega)); replace H8 := hide (H8.out.grown hgs (by intro e; injection e; omega)); replace HB := hide (HB.out.grown hgs HB.out.size (by intro k hk; injection hk; omega)); replace H13 := hide hbs; have hzw18 := hss; replace HXR := hide (HXR.out.below ((Below.refl g13 _).grown hgs (by omega) (by intro k hk; injection hk; omega)) (Nat.le_refl _)); replace HXW := hide (HXW.out.below ((Below.refl g13 _).grown hgs (by omega) (by intro k hk; injection hk; omega)) (Nat.le_refl _)); clear hbs hgs hss))
 refine (drem_any v12 a nm w18 (HEA.out.more (by omega)) HNB.out HIL.out (by have := HINL.out; omega) ((HT.out.below HB.out (Nat.le_refl _)).more HB.out.size)).mono ?_
 rintro e w19 ⟨v19, rfl, ho19, hb19⟩
 have HO19 := hide (ho19.reads hb19.size)
 clear ho19
 rw [HREM.out.1]
 rw [HREM.out.2] at HO19
 replace HXR := hide (HXR.out.below hb19 (by omega))
 replace HXW := hide (HXW.out.below hb19 (by omega))
 replace HE1 := hide (HE1.out.below hb19 (by omega))
 replace HEA := hide (HEA.out.below hb19 (by omega))
 replace HEB := hide (HEB.out.below hb19 (by omega))
 replace H5 := hide (H5.out.below hb19 H5.out.lt)
 replace H7 := hide (H7.out.below hb19 H7.out.lt)
 replace H8 := hide (H8.out.below hb19 H8.out.lt)
 replace H13 := hide (H13.out.below hb19 H13.out.lt)
 replace HB := hide (HB.out.trans (hb19.mono HB.out.size))
 have hz19 := hb19.size
 clear hb19
 obtain ⟨B19, HBd19⟩ : ∃ k, Hid (w19.heap.size = k) := ⟨_, hide rfl⟩
 have hBd19 : B19 ≤ w19.heap.size ∧ w19.heap.size ≤ B19 := by have := HBd19.out; omega
 have HED := hide (show EntsB w19 B19 v19 d from (HO19.out).more hBd19.2)
 clear HO19
 go_wp2_with (first
  | go_skip)
 refine (dfind_any v19 d nm w19 (HED.out.more (by omega)) HNB.out HRL.out (by have := HDN.out; omega)).mono ?_
 rintro e w20 (⟨x', _, _, hx, _⟩ | ⟨_, rfl, hb20⟩)
 case inl => rw [HFR.out] at hx; cases hx
 replace HXR := hide (HXR.out.below hb20 (by omega))
 replace HXW := hide (HXW.out.below hb20 (by omega))
 replace HE1 := hide (HE1.out.below hb20 (by omega))
 replace HEA := hide (HEA.out.below hb20 (by omega))
 replace HEB := hide (HEB.out.below hb20 (by omega))
 replace HED := hide (HED.out.below hb20 (by omega))
 replace H5 := hide (H5.out.below hb20 H5.out.lt)
 replace H7 := hide (H7.out.below hb20 H7.out.lt)
 replace H8 := hide (H8.out.below hb20 H8.out.lt)
 replace H13 := hide (H13.out.below hb20 H13.out.lt)
 replace HB := hide (HB.out.trans (hb20.mono HB.out.size))
 have hz20 := hb20.size
 clear hb20
 obtain ⟨g17, HG17⟩ : ∃ k, Hid (w20.heap.size = k) := ⟨_, hide rfl⟩
 have hg17 : g17 ≤ w20.heap.size ∧ w20.heap.size ≤ g17 := by have := HG17.out; omega
 have hlH5_17 : g5 < g17 := by have := H5.out.lt; omega
 have hlH7_17 : g7 < g17 := by have := H7.out.lt; omega
 have hlH8_17 : g8 < g17 := by have := H8.out.lt; omega
 have hlH13_17 : g13 < g17 := by have := H13.out.lt; omega
 go_wp2_with (first
  | go_skip
  | (refine wpList_alloc_blk rfl 45 rfl _ zero_ent ?_; intro w21 hba hwa hsa; rw [HG17.out] at hba hsa; try rw [HG17.out]; have H17 := hide hba; replace HE1 := hide (HE1.out.below hwa (by omega)); replace HEA := hide (HEA.out.below hwa (by omega)); replace HEB := hide (HEB.out.below hwa (by omega)); replace HED := hide (HED.out.below hwa (by omega)); replace H5 := hide (H5.out.below hwa H5.out.lt); replace H7 := hide (H7.out.below hwa H7.out.lt); replace H8 := hide (H8.out.below hwa H8.out.lt); replace H13 := hide (H13.out.below hwa H13.out.lt); replace HB := hide (HB.out.trans (hwa.mono HB.out.size)); replace HXR := hide (HXR.out.below hwa (by omega)); replace HXW := hide (HXW.out.below hwa (by omega)); have hzw21 := hwa.size; clear hba hwa)
  | (refine wpList_st_putAll _ _ _ rfl rfl rfl H17.out (entC EntD.none_ (.slice none 0 0) (.slice none 0 0)) rfl rfl (size_entL none_LE.1 none_LE.2) (ent_oneL rfl rfl) ?_; intro w22 hbs hgs hss; replace HE1 := hide (HE1.out.below ((Below.refl B2 _).grown hgs (by omega) (by intro k hk; injection hk; omega)) (Nat.le_refl _)); replace HEA := hide (HEA.out.below ((Below.refl B12 _).grown hgs (by omega) (by intro k hk; injection hk; omega)) (Nat.le_refl _)); replace HEB := hide (HEB.out.below ((Below.refl B13 _).grown hgs (by omega) (by intro k hk; injection hk; omega)) (Nat.le_refl _)); replace HED := hide (HED.out.below ((Below.refl B19 _).grown hgs (by omega) (by intro k hk; injection hk; omega)) (Nat.le_refl _)); replace H5 := hide (H5.out.grown hgs (by intro e; injection e; omega)); replace H7 := hide (H7.out.grown hgs (by intro e; injection e; omega)); replace H8 := hide (H8.out.grown hgs (by intro e; injection e; omega)); replace H13 := hide (H13.out.grown hgs (by intro e; injection e; omega)); replace HB := hide (HB.out.grown hgs HB.out.size (by intro k hk; injection hk; omega)); replace H17 := hide hbs; have hzw22 := hss; replace HXR := hide (HXR.out.below ((Below.refl g13 _).grown hgs (by omega) (by intro k hk; injection hk; omega)) (Nat.le_refl _)); replace HXW := hide (HXW.out.below ((Below.refl g13 _).grown hgs (by omega) (by intro k hk; injection hk; omega)) (Nat.le_refl _)); clear hbs hgs hss))
 refine (drem_any v19 d nm w22 (HED.out.more (by omega)) HNB.out HRL.out (by have := HDN.out; omega) ((HT.out.below HB.out (Nat.le_refl _)).more HB.out.size)).mono ?_
 rintro e w23 ⟨v23, rfl, ho23, hb23⟩
 clear ho23
 rw [HAGN.out.1]
 replace HXR := hide (HXR.out.below hb23 (by omega))
 replace HXW := hide (HXW.out.below hb23 (by omega))
 replace HE1 := hide (HE1.out.below hb23 (by omega))
 replace HEA := hide (HEA.out.below hb23 (by omega))
 replace HEB := hide (HEB.out.below hb23 (by omega))
 replace HED := hide (HED.out.below hb23 (by omega))
 replace H5 := hide (H5.out.below hb23 H5.out.lt)
 replace H7 := hide (H7.out.below hb23 H7.out.lt)
 replace H8 := hide (H8.out.below hb23 H8.out.lt)
 replace H13 := hide (H13.out.below hb23 H13.out.lt)
 replace HB := hide (HB.out.trans (hb23.mono HB.out.size))
 have hz23 := hb23.size
 clear hb23
 obtain ⟨g30, HG30⟩ : ∃ k, Hid (w23.heap.size = k) := ⟨_, hide rfl⟩
 have hg30 : g30 ≤ w23.heap.size ∧ w23.heap.size ≤ g30 := by have := HG30.out; omega
 have hlH5_30 : g5 < g30 := by have := H5.out.lt; omega
 have hlH7_30 : g7 < g30 := by have := H7.out.lt; omega
 have hlH8_30 : g8 < g30 := by have := H8.out.lt; omega
 have hlH13_30 : g13 < g30 := by have := H13.out.lt; omega
 have HSZX := hide (show (Tryd.prog.info? 45).map (·.size) = some (entC x lx ly).length from size_entL HEW.out.lens.1 HEW.out.lens.2)
 obtain ⟨A19, c19, e19⟩ : ∃ A k, v19 = .slice A d.length k := by obtain ⟨A, k, e, _⟩ := HED.out; exact ⟨A, k, e⟩
 obtain ⟨A12, c12, e12⟩ : ∃ A k, v12 = .slice A a.length k := by obtain ⟨A, k, e, _⟩ := HEA.out; exact ⟨A, k, e⟩
 have HLE := hide (show (d.length : Int) = (a.length : Int) - 1 by have := HLEN.out; omega)
 obtain ⟨nd, HND⟩ : ∃ k, Hid (d.length = k) := ⟨_, hide rfl⟩
 obtain ⟨na, HNA⟩ : ∃ k, Hid (a.length = k) := ⟨_, hide rfl⟩
 rw [HND.out] at e19
 rw [HNA.out] at e12
 have HLEQ := hide (show ((nd : Int) == (na : Int) - 1) = true by rw [← HND.out, ← HNA.out, HLE.out]; simp)
 have hna7 : na ≤ 7 := by have := HINL.out; have := HNA.out; omega
 subst e19 e12
 go_wp2_with (first
  | go_skip
  | (refine wpList_st_all 45 _ rfl rfl rfl H13.out _ Tryd.underlying45 rfl HSZX.out ?_)
  | (refine wpList_lit_entW rfl _ rfl (EntL.mk x lx ly) HEW.out rfl ?_; intro w24 hba hwa hsa; rw [HG30.out] at hba; try rw [HG30.out]; have H30 := hide hba; replace HE1 := hide (HE1.out.below hwa (by omega)); replace HEA := hide (HEA.out.below hwa (by omega)); replace HEB := hide (HEB.out.below hwa (by omega)); replace HED := hide (HED.out.below hwa (by omega)); replace H5 := hide (H5.out.below hwa H5.out.lt); replace H7 := hide (H7.out.below hwa H7.out.lt); replace H8 := hide (H8.out.below hwa H8.out.lt); replace H13 := hide (H13.out.below hwa H13.out.lt); replace HB := hide (HB.out.trans (hwa.mono HB.out.size)); replace HXR := hide (HXR.out.below hwa (by omega)); replace HXW := hide (HXW.out.below hwa (by omega)); have hzw24 := hwa.size; have hsw24 := hsa; have hs31 : w24.heap.size = g30 + 1 := hsa.trans (by rw [HG30.out]); clear hba hwa hsa)
  | (refine wpList_st_all 45 _ rfl rfl rfl H7.out _ Tryd.underlying45 rfl HSZE.out ?_)
  | (refine wpList_lit_entW rfl _ rfl (EntL.mk x lr (.slice none 0 0)) HEW.out rfl ?_; intro w25 hba hwa hsa; rw [hs31] at hba; try rw [hs31]; have H31 := hide hba; replace HE1 := hide (HE1.out.below hwa (by omega)); replace HEA := hide (HEA.out.below hwa (by omega)); replace HEB := hide (HEB.out.below hwa (by omega)); replace HED := hide (HED.out.below hwa (by omega)); replace H5 := hide (H5.out.below hwa H5.out.lt); replace H7 := hide (H7.out.below hwa H7.out.lt); replace H8 := hide (H8.out.below hwa H8.out.lt); replace H13 := hide (H13.out.below hwa H13.out.lt); replace H30 := hide (H30.out.below hwa H30.out.lt); replace HB := hide (HB.out.trans (hwa.mono HB.out.size)); replace HXR := hide (HXR.out.below hwa (by omega)); replace HXW := hide (HXW.out.below hwa (by omega)); have hzw25 := hwa.size; have hsw25 := hsa; clear hba hwa hsa))
 have hz31 := H31.out.lt
 have hz30 := H30.out.lt
 refine (keep_ents (.slice (some ⟨g30, 0, none⟩) 1 1) (.slice (some ⟨g30 + 1, 0, none⟩) 1 1) [x] [x] w25 w25.heap.size (Nat.le_refl _) (ents_one H30.out hz30 ⟨HEW.out, HXR.out.more (by omega), HXW.out.more (by omega)⟩) (ents_one H31.out hz31 (HOK.out w25))).mono ?_
 rintro e w26 ⟨rfl, hb26⟩
 rw [(entsEq_iff [x] [x]).2 rfl]
 replace HE1 := hide (HE1.out.below hb26 (by omega))
 replace HEA := hide (HEA.out.below hb26 (by omega))
 replace HEB := hide (HEB.out.below hb26 (by omega))
 replace HED := hide (HED.out.below hb26 (by omega))
 replace HB := hide (HB.out.trans (hb26.mono HB.out.size))
 have hz26 := hb26.size
 clear hb26
 go_wp2_with (first
  | go_skip)
 refine (dright_any (.slice A19 nd c19) d w26 (HED.out.more (by omega)) HRL.out (by have := HDN.out; omega) ((HT.out.below HB.out (Nat.le_refl _)).more HB.out.size)).mono ?_
 rintro e w27 ⟨rfl, hb27⟩
 rw [HRR.out]
 replace HE1 := hide (HE1.out.below hb27 (by omega))
 replace HEA := hide (HEA.out.below hb27 (by omega))
 replace HEB := hide (HEB.out.below hb27 (by omega))
 replace HED := hide (HED.out.below hb27 (by omega))
 replace HB := hide (HB.out.trans (hb27.mono HB.out.size))
 have hz27 := hb27.size
 clear hb27
 go_wp2_with (first
  | go_skip
  | (refine wpList_val_ rfl (exec_subG _ _ _ rfl (na : Int) 1 _ rfl rfl rfl (by omega)) ?_)
  | (refine wpList_val_ rfl (exec_eql_i64 _ _ _ _ rfl (nd : Int) ((na : Int) - 1) rfl rfl _ HLEQ.out) ?_))
 refine (wakes23 w27 ((HT.out.below HB.out (Nat.le_refl _)).more HB.out.size)).mono ?_
 rintro e w28 ⟨rfl, hb28⟩
 replace HE1 := hide (HE1.out.below hb28 (by omega))
 replace HEA := hide (HEA.out.below hb28 (by omega))
 replace HEB := hide (HEB.out.below hb28 (by omega))
 replace HED := hide (HED.out.below hb28 (by omega))
 replace HB := hide (HB.out.trans (hb28.mono HB.out.size))
 have hz28 := hb28.size
 clear hb28
 go_wp2_with go_skip
 go_ret
 exact ⟨rfl, HB.out⟩
theorem walk_ (w : World) (ht : Tab w w.heap.size) (v : Value) (l : List EntD) (hv : EntsB w w.heap.size v l) (hin : ∀ e ∈ l, e.In) (s : ByteArray) (hs : s.size ≤ maxLen) (c : CapD) (lit : Value) (hc : c.In) (hl : Bs w w.heap.size lit c.lit) :
 Calls Tryd.prog 6 #[v, .string s, capV c lit] w fun e w' => e = .returned (.bool true) ∧ Below w.heap.size w w' := by
 have := walk w ht v l hv hin (strB s) (strB_bytes s) (by rw [strOf_strB]; exact hs) c lit hc hl
 rwa [strOf_strB] at this
set_option maxRecDepth 100000 in
theorem lifted (os : Os) (started : os.Started) (H : Type) (enc : TypeId × Value → H) :
 ReturnsInHanded {} Tryd.checked os 6 .any (fun w args => (Rows.dirsRowsSpec.pre enc Tryd.prog Tryd.f6 [] false w args ∧ laidMetH Tryd.prog laidD w) ∧ sizedMet enc Tryd.prog Tryd.f6 (OpenSpec.ofChange Rows.dirsRowsSpec) false w args)
  (Rows.dirsRowsSpec.post enc Tryd.prog Tryd.f6 false true false false) := by
 refine returnsInHanded_of_change_and (C := Tryd.checked) (X := fun w _ => laidMetH Tryd.prog laidD w) (fun _ _ _ hh h => h.of_heap hh) own started (by kernel_rfl) Tryd.func6
  (ChangeSpec.witness_shaped (enc := enc) (C := Tryd.checked) (os := os) (X := fun w _ => laidMetH Tryd.prog laidD w) false (World.doorLaid Tryd.prog doorSteps os) #[.slice none 0 0, .string { data := #[] }, capV CapD.none_ (.slice none 0 0)] 8 rfl (World.shaped_of_RefB (by kernel_rfl) (by kernel_rfl)) (by kernel_rfl) (by kernel_rfl) (by kernel_rfl) (door_met os _)) ?_
 intro W base args ds gs before hval0 hW _ _ hL _
 have hT := tab_of hL
 have hval : ∀ (j : Nat) t v, Tryd.f6.params[j]? = some t → args[j]? = some v → Value.okWide Tryd.prog W .any base t v := hval0
 have hW' := hW
 obtain ⟨p, q, hA0, hV, rfl, hfz, hnd⟩ := hW
 have hA : DataW.TrodAll enc Tryd.prog W 0 (fun _ => true) true Tryd.f6.params.toList args.toList ds p := hA0
 rw [Tryd.params6] at hA hval
 obtain ⟨v0, vs0, d0, ds0, p0, q0, hargs, rfl, rfl, h0, r0⟩ := trodAll_cons hA
 obtain ⟨v1, vs1, d1, ds1, p1, q1, rfl, rfl, rfl, h1, r1⟩ := trodAll_cons r0
 obtain ⟨v2, vs2, d2, ds2, p2, q2, rfl, rfl, rfl, h2, r2⟩ := trodAll_cons r1
 obtain ⟨rfl, rfl, rfl⟩ := trodAll_nil r2
 obtain rfl : args = #[v0, v1, v2] := by cases args; simp_all
 obtain ⟨rfl, rfl⟩ := trodVars_none hV
 have k0 := h0
 have lt0 : ∀ x ∈ p0, x.block < W.heap.size := by obtain ⟨m, hm⟩ := k0; exact DataW.trod_lt m _ _ _ hm
 obtain ⟨z0, w0, b0⟩ := read_ents (hval 0 29 v0 rfl rfl) h0
 obtain ⟨a1, rfl, rfl, rfl, sz1⟩ := Go.ChangeMaps.open_string Tryd.underlying9 (hval 1 9 v1 rfl rfl) h1
 have k2 := h2
 have lt2 : ∀ x ∈ p2, x.block < W.heap.size := by obtain ⟨m, hm⟩ := k2; exact DataW.trod_lt m _ _ _ hm
 obtain ⟨z2, l2, rfl, w2, b2⟩ := read_cap (hval 2 28 v2 rfl rfl) h2
 clear hA0 hval0
 refine (walk_ W hT v0 z0 w0 b0 a1 sz1 z2 l2 w2 b2).mono fun e W' ⟨he, bel⟩ => ?_
 subst he
 exact ⟨_, rfl, _, _, _, [], _, [], hW', trodAll_mk1 (shut_bool Tryd.underlying4 _), (trodAll_cons_mk (Below.trod laidOut (by kernel_rfl) (of_decide_eq_true (by kernel_rfl)) k0 bel lt0) (trodAll_cons_mk (Go.ChangeMaps.shut_string Tryd.underlying9 sz1) (trodAll_cons_mk (Below.trod laidOut (by kernel_rfl) (of_decide_eq_true (by kernel_rfl)) k2 bel lt2) trodAll_mk0))), rfl, bel.frame _, fun h => by cases h⟩

theorem over : Rows.dirsRowsRow.holds Tryd.pinned (OpenSpec.ofChange Rows.dirsRowsSpec) :=
 OpenClaim.holds_of_wide 6 Tryd.f6 rfl rfl rfl rfl rfl rfl rfl ⟨rfl, rfl, rfl, rfl, rfl⟩ rfl rfl rfl rfl rfl (by kernel_rfl) Tryd.func6 (by kernel_rfl)
  (of_decide_eq_true (by kernel_rfl)) (by unfold Func.isWrapper; rw [if_neg (of_decide_eq_false (by kernel_rfl))]; exact ⟨rfl, rfl⟩)
  (fun os started H enc _ => lifted os started H enc)

theorem proved : Rows.DirsRowsCardSaid :=
 Claim7.holds_tied_plain_at .later [] Rows.dirsRowsCard.laidKinds true Rows.dirsRowsCard.stood.harness Rows.dirsRowsCard.stood.looks
  over (fun _ h => by cases h) (by kernel_rfl) (fun _ h => by cases h) dirsRows_row_tie rfl ⟨rfl, rfl⟩ (by kernel_rfl) rfl
  (fun f fn hf hfn => by
   obtain rfl : f = 6 := Option.some.inj ((show Tryd.prog.funcNamed "aumbry/aumbrylaw23.DirsRows" = some 6 by kernel_rfl).symm.trans hf) |>.symm
   obtain rfl : fn = Tryd.f6 := (Option.some.inj (Tryd.func6.symm.trans hfn)).symm
   exact ⟨by kernel_rfl, fun j t ht => by
    have ht' : Tryd.f6.params[j]? = some t := ht
    rw [Tryd.params6] at ht'
    have hm : t ∈ [29, 9, 28] := by simpa using Array.mem_of_getElem? ht'
    have hall : ([29, 9, 28].all fun u => !Tryd.prog.wantsStandIn u) = true := by kernel_rfl
    exact (show Tryd.prog.wantsStandIn t = false by simpa using List.all_eq_true.1 hall t hm)⟩)
  (by kernel_rfl)
end Go.Proofs.YthdjgebbjogmiaaDoor.LawDirsRows
