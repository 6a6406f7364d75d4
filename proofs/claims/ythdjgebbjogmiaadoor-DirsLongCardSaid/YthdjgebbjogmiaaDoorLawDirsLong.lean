/-
DirsLong holds: az many entries az may be, and one more; names az long az may be, and longer. Conditions: none but the row's own.
-/
import Derived.Test.YthdjgebbjogmiaaDoorJoin19
import Derived.Test.YthdjgebbjogmiaaDoorJoin20
import Derived.Test.YthdjgebbjogmiaaDoorJoin21
import Derived.Test.YthdjgebbjogmiaaDoorDirSet
import Derived.Test.YthdjgebbjogmiaaDoorJoin9
import Derived.Test.YthdjgebbjogmiaaDoorB32
import Derived.Test.YthdjgebbjogmiaaDoorTied
namespace Go.Proofs.YthdjgebbjogmiaaDoor.LawDirsLong
open Go Go.RowKit Go.ChangeShapes Go.WideShapes Go.ChangeAt
set_option linter.unusedVariables false
set_option linter.unusedSimpArgs false
set_option maxRecDepth 100000
theorem built_litC : Tryd.prog.built 28 [(0, .int .i64 3)] = some (capCells litC (.slice none 0 0)).toArray := by kernel_rfl
theorem built_slotC : Tryd.prog.built 28 [(0, .int .i64 4)] = some (capCells slotC (.slice none 0 0)).toArray := by kernel_rfl
theorem built_lit0 (s : ByteArray) : Tryd.prog.built 45 [(0, .string s), (1, .agg (capCells litC (.slice none 0 0)).toArray)] = some (Value.string s :: (capCells litC (.slice none 0 0) ++ (capCells CapD.none_ (.slice none 0 0) ++ [.bool false]))).toArray := by kernel_rfl
theorem built_slot0 (s : ByteArray) : Tryd.prog.built 45 [(0, .string s), (1, .agg (capCells slotC (.slice none 0 0)).toArray)] = some (Value.string s :: (capCells slotC (.slice none 0 0) ++ (capCells CapD.none_ (.slice none 0 0) ++ [.bool false]))).toArray := by kernel_rfl
theorem built_entC1 : Tryd.prog.built 45 [(1, .agg (capCells litC (.slice none 0 0)).toArray)] = some (entC (entN [] litC) (.slice none 0 0) (.slice none 0 0)).toArray := by kernel_rfl
theorem exec_eqlB {o : Oper} {a : Act} {w : World} (x y : Operand) (t' : TypeId) (ho : o.op = .binOp .eql 4 x y t') (p q : Bool) (hx : a.eval x = .bool p) (hy : a.eval y = .bool q) (r : Bool) (hr : (p == q) = r) : (execOp a.eval o).run Tryd.prog w = .ok (.value (.bool r)) w := by
 subst hr
 unfold execOp
 simp only [ho, hx, hy]
 go_simp
 try (cases p <;> cases q <;> rfl)
set_option maxHeartbeats 16000000 in
theorem walk (w : World) (ht : Tab w w.heap.size) (n : Int) (hn : In64 n) (size : Int) (hs : In64 size) :
 Calls Tryd.prog 4 #[.int .i64 n, .int .i64 size] w fun e w' => e = .returned (.bool true) ∧ Below w.heap.size w w' := by
 have HT := hide ht
 have HB := hide (Below.refl w.heap.size w)
 have hwn := within_lt n 4 (by omega)
 have hws := within_lt size 4 (by omega)
 have HWN := hide (within_any n 4 w hn.1 hn.2 (by omega))
 have HWS := hide (fun (w' : World) => within_any size 4 w' hs.1 hs.2 (by omega))
 obtain ⟨an, HAN⟩ : ∃ k : Nat, Hid (within n 4 = (k : Int)) := ⟨(within n 4).toNat, hide (by omega)⟩
 obtain ⟨az, HAS⟩ : ∃ k : Nat, Hid (within size 4 = (k : Int)) := ⟨(within size 4).toNat, hide (by omega)⟩
 rw [HAN.out] at HWN hwn
 rw [HAS.out] at HWS hws
 have han : an < 4 := by omega
 have has : az < 4 := by omega
 obtain ⟨m, HM⟩ : ∃ k, Hid (14 + an = k) := ⟨_, hide rfl⟩
 have hm : 14 ≤ m ∧ m ≤ 17 := by have := HM.out; omega
 have HME := hide (show (14 : Int) + (an : Int) = (m : Int) by have := HM.out; omega)
 clear hn hs hwn hws ht
 go_enter Tryd.func4, Tryd.ntmps4
 go_wp2_with fail
 refine HWN.out.mono ?_
 rintro e w1 ⟨rfl, rfl⟩
 clear HWN
 go_wp2_with (refine wpList_val_ rfl (exec_addG _ _ _ rfl 14 (an : Int) (m : Int) rfl rfl HME.out (by omega)) ?_)
 go_loopw [5, 7] (fun v5 v7 wr => ∃ (i : Nat), v7 = .int .i64 (i : Int) ∧ i ≤ m ∧ EntsB wr wr.heap.size v5 (longL (min i 16)) ∧ Below w.heap.size w wr) (fun _ v7 _ => m - (intOf v7).toNat)
 case atStart => exact ⟨0, by go_num, by omega, EntsB.nil_ _ _, HB.out⟩
 case round =>
  obtain ⟨i, rfl, hin, he, hb⟩ := hrel
  replace HB := hide hb
  have hz0 := hb.size
  clear hb
  by_cases hlt : i < m
  · have hlt' : (i : Int) < (m : Int) := by omega
    have hi16 : i ≤ 16 := by omega
    have HMI := hide (show min i 16 = i by omega)
    rw [HMI.out] at he
    have HE := hide he
    clear he
    have HSET := hide (long_set i hi16)
    have HBE := hide (show Tryd.prog.built 45 [(0, .string (strOfNums [97 + (i : Int)])), (1, .agg (capCells litC (.slice none 0 0)).toArray)] = some (entC (longE i) (.slice none 0 0) (.slice none 0 0)).toArray from built_lit0 _)
    have HNB := hide (show Bytes [97 + (i : Int)] from fun x hx => by rw [List.mem_singleton.1 hx]; omega)
    go_wp2_with (first
     | go_skip
     | (refine wpList_val_ rfl (exec_int_u8 _ (97 + (i : Int)) rfl rfl (by omega) (by omega)) ?_)
     | (refine wpList_lit1v rfl _ rfl (97 + (i : Int)) rfl (97 + (i : Int)) rfl ?_; intro g28 w28 hb28 hg28 hw28; have HE28 := hide (HE.out.below hw28 (Nat.le_refl _)); have HB28 := hide (HB.out.trans (hw28.mono hz0)); have hz28 := hw28.size; have HV28 := hide hb28; clear hb28 hg28 hw28)
     | (refine wpList_to_string rfl _ rfl w28.heap.size (.slice (some ⟨g28, 0, none⟩) 1 1) [97 + (i : Int)] rfl (HV28.out.reads rfl (by omega)) ?_)
     | (refine wpList_st_build1 28 0 _ rfl rfl (.int .i64 3) rfl (capCells litC (.slice none 0 0)) built_litC ?_)
     | (refine wpList_st_build2 45 0 1 _ _ rfl rfl (.string (strOfNums [97 + (i : Int)])) (.agg (capCells litC (.slice none 0 0)).toArray) rfl rfl (entC (longE i) (.slice none 0 0) (.slice none 0 0)) HBE.out ?_))
    refine (dset_any u5 (longL i) (longE i) (.slice none 0 0) (.slice none 0 0) w28 (HE28.out.more hz28) ⟨entN_wf HNB.out litC_wf, Bs.nil_ _ _, Bs.nil_ _ _⟩ (long_lit i) ⟨by show ([] : List Int).length ≤ _; simp, by show ([] : List Int).length ≤ _; simp⟩ (by rw [longL_len]; omega) ((HT.out.below HB28.out (Nat.le_refl _)).more HB28.out.size)).mono ?_
    rintro e w9 ⟨v9, rfl, ho9, hb9⟩
    have HO9 := hide (ho9.reads hb9.size)
    have HE9 := hide ((HE28.out.below hb9 hz28).more (Nat.le_trans hz28 hb9.size))
    replace HB := hide (HB28.out.trans (hb9.mono HB28.out.size))
    clear ho9 hb9 HE HE28 HB28 HV28
    rw [HSET.out.1]
    rw [HSET.out.2] at HO9
    obtain ⟨A9, c9, e9⟩ : ∃ A k, v9 = .slice A (if i < 16 then longL (i + 1) else ([] : List EntD)).length k := by obtain ⟨A, k, e, _⟩ := HO9.out; exact ⟨A, k, e⟩
    by_cases h16 : i < 16
    · have i16 : decide ((i : Int) < 16) = true := decide_eq_true (by omega)
      rw [if_pos h16] at HO9 ⊢
      rw [if_pos h16, longL_len] at e9
      have HNX := hide (show min (i + 1) 16 = i + 1 by omega)
      subst e9
      clear h16 HSET
      go_wp2_with go_skip
      go_roundw
      case measure => simp [intOf]; omega
      case rel => exact ⟨i + 1, by go_num, by omega, by rw [HNX.out]; exact HO9.out, HB.out⟩
    · have i16 : decide ((i : Int) < 16) = false := decide_eq_false (by omega)
      rw [if_neg h16] at HO9 ⊢
      rw [if_neg h16] at e9
      have HNX := hide (show longL (min (i + 1) 16) = longL i by rw [show min (i + 1) 16 = i by omega])
      simp only [List.length_nil] at e9
      subst e9
      clear h16 HSET
      go_wp2_with go_skip
      go_roundw
      case measure => simp [intOf]; omega
      case rel => exact ⟨i + 1, by go_num, by omega, by rw [HNX.out]; exact HE9.out, HB.out⟩
  · obtain rfl : i = m := by omega
    have hlt' : ¬ (i : Int) < (i : Int) := by omega
    obtain ⟨k, HK⟩ : ∃ k, Hid (min i 16 = k) := ⟨_, hide rfl⟩
    have HMN := hide (show min (i : Int) 16 = (k : Int) by have := HK.out; omega)
    have hk16 : k ≤ 16 := by have := HK.out; omega
    rw [HK.out] at he
    have HE := hide he
    obtain ⟨A5, c5, e5⟩ : ∃ A c, u5 = .slice A k c := by obtain ⟨A, c, e, _⟩ := he; rw [longL_len] at e; exact ⟨A, c, e⟩
    subst e5
    clear he
    obtain ⟨z, HZ⟩ : ∃ k, Hid (62 + az = k) := ⟨_, hide rfl⟩
    have hz : 62 ≤ z ∧ z ≤ 65 := by have := HZ.out; omega
    have HZE := hide (show (62 : Int) + (az : Int) = (z : Int) by have := HZ.out; omega)
    have HBZ := hide (show Tryd.prog.built 45 [(0, .string (strOfNums (List.replicate z 0))), (1, .agg (capCells litC (.slice none 0 0)).toArray)] = some (entC (entN (List.replicate z 0) litC) (.slice none 0 0) (.slice none 0 0)).toArray from built_lit0 _)
    have HBS := hide (show Tryd.prog.built 45 [(0, .string (strOfNums [120])), (1, .agg (capCells slotC (.slice none 0 0)).toArray)] = some (entC (entN [120] slotC) (.slice none 0 0) (.slice none 0 0)).toArray from built_slot0 _)
    have HB1 := hide (show Tryd.prog.built 45 [(1, .agg (capCells litC (.slice none 0 0)).toArray)] = some (entC (entN [] litC) (.slice none 0 0) (.slice none 0 0)).toArray from built_entC1)
    have HZB := hide (show Bytes (List.replicate z 0) from bytes_rep z)
    have HXS := hide (show (Value.string { data := #[120] }) = .string (strOfNums [120]) from rfl)
    go_wp2_with go_skip
    refine (HWS.out wr).mono ?_
    rintro e w2 ⟨rfl, rfl⟩
    obtain ⟨f, HF⟩ : ∃ f : Int, Hid (setE [] (entN (List.replicate z 0) litC) = f) := ⟨_, hide rfl⟩
    have HFE := hide (show (f == 0) = decide ((z : Int) ≤ 64) by
     rw [← HF.out, one_set, entN_one, List.length_replicate, Bool.eq_iff_iff]
     by_cases h : z ≤ 64
     · rw [decide_eq_true (show 1 ≤ z ∧ z ≤ 64 by omega)]; simp; omega
     · rw [decide_eq_false (show ¬ (1 ≤ z ∧ z ≤ 64) by omega)]; simp; omega)
    have HG := hide (show setE [] (entN [] litC) = 1 by rw [one_set, entN_one]; rfl)
    have HH := hide (show setE [] (entN [120] slotC) = 1 by rw [one_set, entN_slot]; rfl)
    obtain ⟨g57, HG57⟩ : ∃ k, Hid (wr.heap.size = k) := ⟨_, hide rfl⟩
    have hg57 : wr.heap.size ≤ g57 ∧ g57 ≤ wr.heap.size := by have := HG57.out; omega
    go_wp2_with (first
     | go_skip
     | (refine wpList_val_ rfl (exec_addG _ _ _ rfl 62 (az : Int) (z : Int) rfl rfl HZE.out (by omega)) ?_)
     | (refine wpList_make_bytes rfl _ _ rfl .i64 .i64 z z rfl rfl (Nat.le_refl _) (by omega) ?_; intro w57 hb57 hw57 hs57; rw [HG57.out] at hb57; try rw [HG57.out]; have HV57 := hide (Rd.of_blk hb57 hb57.lt 1 z z (by rw [u8s_len]; simp) (Nat.le_refl _) (by unfold maxLen; omega)); replace HB := hide (HB.out.trans (hw57.mono HB.out.size)); clear hb57 hw57 hs57)
     | (refine wpList_to_string rfl _ rfl w57.heap.size (.slice (some ⟨g57, 0, none⟩) z z) (List.replicate z 0) rfl (by have := HV57.out; unfold Bs; rw [List.length_replicate]; exact this) ?_)
     | (refine wpList_st_build1 28 0 _ rfl rfl (.int .i64 3) rfl (capCells litC (.slice none 0 0)) built_litC ?_)
     | (refine wpList_st_build2 45 0 1 _ _ rfl rfl (.string (strOfNums (List.replicate z 0))) (.agg (capCells litC (.slice none 0 0)).toArray) rfl rfl (entC (entN (List.replicate z 0) litC) (.slice none 0 0) (.slice none 0 0)) HBZ.out ?_))
    refine (dset_any (.slice none 0 0) [] (entN (List.replicate z 0) litC) (.slice none 0 0) (.slice none 0 0) w57 (EntsB.nil_ _ _) ⟨entN_wf HZB.out litC_wf, Bs.nil_ _ _, Bs.nil_ _ _⟩ (fun x hx => by cases hx) ⟨by show ([] : List Int).length ≤ _; simp, by show ([] : List Int).length ≤ _; simp⟩ (by simp) ((HT.out.below HB.out (Nat.le_refl _)).more HB.out.size)).mono ?_
    rintro e w61 ⟨v61, rfl, _, hb61⟩
    rw [HF.out]
    replace HB := hide (HB.out.trans (hb61.mono HB.out.size))
    clear hb61
    go_wp2_with (first
     | go_skip
     | (refine wpList_st_build1 28 0 _ rfl rfl (.int .i64 3) rfl (capCells litC (.slice none 0 0)) built_litC ?_)
     | (refine wpList_st_build1 45 1 _ rfl rfl (.agg (capCells litC (.slice none 0 0)).toArray) rfl (entC (entN [] litC) (.slice none 0 0) (.slice none 0 0)) HB1.out ?_))
    refine (dset_any (.slice none 0 0) [] (entN [] litC) (.slice none 0 0) (.slice none 0 0) w61 (EntsB.nil_ _ _) ⟨entN_wf (fun x hx => by cases hx) litC_wf, Bs.nil_ _ _, Bs.nil_ _ _⟩ (fun x hx => by cases hx) ⟨by show ([] : List Int).length ≤ _; simp, by show ([] : List Int).length ≤ _; simp⟩ (by simp) ((HT.out.below HB.out (Nat.le_refl _)).more HB.out.size)).mono ?_
    rintro e w67 ⟨v67, rfl, _, hb67⟩
    rw [HG.out]
    replace HB := hide (HB.out.trans (hb67.mono HB.out.size))
    clear hb67
    go_wp2_with (first
     | go_skip
     | (refine wpList_st_build1 28 0 _ rfl rfl (.int .i64 4) rfl (capCells slotC (.slice none 0 0)) built_slotC ?_)
     | (refine wpList_st_build2 45 0 1 _ _ rfl rfl (.string (strOfNums [120])) (.agg (capCells slotC (.slice none 0 0)).toArray) rfl rfl (entC (entN [120] slotC) (.slice none 0 0) (.slice none 0 0)) HBS.out ?_))
    refine (dset_any (.slice none 0 0) [] (entN [120] slotC) (.slice none 0 0) (.slice none 0 0) w67 (EntsB.nil_ _ _) ⟨entN_wf (fun x hx => by rw [List.mem_singleton.1 hx]; omega) slotC_wf, Bs.nil_ _ _, Bs.nil_ _ _⟩ (fun x hx => by cases hx) ⟨by show ([] : List Int).length ≤ _; simp, by show ([] : List Int).length ≤ _; simp⟩ (by simp) ((HT.out.below HB.out (Nat.le_refl _)).more HB.out.size)).mono ?_
    rintro e w73 ⟨v73, rfl, _, hb73⟩
    rw [HH.out]
    replace HB := hide (HB.out.trans (hb73.mono HB.out.size))
    clear hb73
    obtain ⟨qz, HQZ⟩ : ∃ q, Hid (decide ((z : Int) ≤ 64) = q) := ⟨_, hide rfl⟩
    rw [HQZ.out] at HFE
    have HKE := hide (show ((k : Int) == (k : Int)) = true by simp)
    have HQQ := hide (show (qz == qz) = true by simp)
    go_wp2_with (first
     | go_skip
     | (refine wpList_val_ rfl (exec_minG _ _ rfl (i : Int) 16 (k : Int) rfl rfl HMN.out) ?_)
     | (refine wpList_val_ rfl (exec_eql_i64 _ _ _ _ rfl (k : Int) (k : Int) rfl rfl _ HKE.out) ?_)
     | (refine wpList_val_ rfl (exec_eql_i64 _ _ _ _ rfl f 0 rfl rfl _ HFE.out) ?_)
     | (refine wpList_val_ rfl (exec_leq_i64 _ _ _ _ rfl (z : Int) 64 rfl rfl _ HQZ.out) ?_)
     | (refine wpList_val_ rfl (exec_eqlB _ _ _ rfl qz qz rfl rfl _ HQQ.out) ?_))
    refine (wakes23 w73 ((HT.out.below HB.out (Nat.le_refl _)).more HB.out.size)).mono ?_
    rintro e w97 ⟨rfl, hb97⟩
    replace HB := hide (HB.out.trans (hb97.mono HB.out.size))
    clear hb97
    go_wp2_with go_skip
    go_ret
    exact ⟨rfl, HB.out⟩
set_option maxRecDepth 100000 in
theorem lifted (os : Os) (started : os.Started) (H : Type) (enc : TypeId × Value → H) :
 ReturnsInHanded {} Tryd.checked os 4 .any (fun w args => (Rows.dirsLongSpec.pre enc Tryd.prog Tryd.f4 [] false w args ∧ laidMetH Tryd.prog laidD w) ∧ sizedMet enc Tryd.prog Tryd.f4 (OpenSpec.ofChange Rows.dirsLongSpec) false w args)
  (Rows.dirsLongSpec.post enc Tryd.prog Tryd.f4 false true false false) := by
 refine returnsInHanded_of_change_and (C := Tryd.checked) (X := fun w _ => laidMetH Tryd.prog laidD w) (fun _ _ _ hh h => h.of_heap hh) own started (by kernel_rfl) Tryd.func4
  (ChangeSpec.witness_shaped (enc := enc) (C := Tryd.checked) (os := os) (X := fun w _ => laidMetH Tryd.prog laidD w) false (World.doorLaid Tryd.prog doorSteps os) #[.int .i64 0, .int .i64 0] 8 rfl (World.shaped_of_RefB (by kernel_rfl) (by kernel_rfl)) (by kernel_rfl) (by kernel_rfl) (by kernel_rfl) (door_met os _)) ?_
 intro W base args ds gs before hval0 hW _ _ hL _
 have hT := tab_of hL
 have hval : ∀ (j : Nat) t v, Tryd.f4.params[j]? = some t → args[j]? = some v → Value.okWide Tryd.prog W .any base t v := hval0
 have hW' := hW
 obtain ⟨p, q, hA0, hV, rfl, hfz, hnd⟩ := hW
 have hA : DataW.TrodAll enc Tryd.prog W 0 (fun _ => true) true Tryd.f4.params.toList args.toList ds p := hA0
 rw [Tryd.params4] at hA hval
 obtain ⟨v0, vs0, d0, ds0, p0, q0, hargs, rfl, rfl, h0, r0⟩ := trodAll_cons hA
 obtain ⟨v1, vs1, d1, ds1, p1, q1, rfl, rfl, rfl, h1, r1⟩ := trodAll_cons r0
 obtain ⟨rfl, rfl, rfl⟩ := trodAll_nil r1
 obtain rfl : args = #[v0, v1] := by cases args; simp_all
 obtain ⟨rfl, rfl⟩ := trodVars_none hV
 obtain ⟨a0, rfl, rfl, rfl, wf0⟩ := open_int Tryd.underlying3 (hval 0 3 v0 rfl rfl) h0
 obtain ⟨a1, rfl, rfl, rfl, wf1⟩ := open_int Tryd.underlying3 (hval 1 3 v1 rfl rfl) h1
 clear hA0 hval0
 refine (walk W hT a0 (in64_wf wf0) a1 (in64_wf wf1)).mono fun e W' ⟨he, bel⟩ => ?_
 subst he
 exact ⟨_, rfl, _, _, _, [], _, [], hW', trodAll_mk1 (shut_bool Tryd.underlying4 _), (trodAll_cons_mk (shut_int Tryd.underlying3 wf0) (trodAll_cons_mk (shut_int Tryd.underlying3 wf1) trodAll_mk0)), rfl, bel.frame _, fun h => by cases h⟩

theorem over : Rows.dirsLongRow.holds Tryd.pinned (OpenSpec.ofChange Rows.dirsLongSpec) :=
 OpenClaim.holds_of_wide 4 Tryd.f4 rfl rfl rfl rfl rfl rfl rfl ⟨rfl, rfl, rfl, rfl, rfl⟩ rfl rfl rfl rfl rfl (by kernel_rfl) Tryd.func4 (by kernel_rfl)
  (of_decide_eq_true (by kernel_rfl)) (by unfold Func.isWrapper; rw [if_neg (of_decide_eq_false (by kernel_rfl))]; exact ⟨rfl, rfl⟩)
  (fun os started H enc _ => lifted os started H enc)

theorem proved : Rows.DirsLongCardSaid :=
 Claim7.holds_tied_plain_at .later [] Rows.dirsLongCard.laidKinds true Rows.dirsLongCard.stood.harness Rows.dirsLongCard.stood.looks
  over (fun _ h => by cases h) (by kernel_rfl) (fun _ h => by cases h) dirsLong_row_tie rfl ⟨rfl, rfl⟩ (by kernel_rfl) rfl
  (fun f fn hf hfn => by
   obtain rfl : f = 4 := Option.some.inj ((show Tryd.prog.funcNamed "aumbry/aumbrylaw23.DirsLong" = some 4 by kernel_rfl).symm.trans hf) |>.symm
   obtain rfl : fn = Tryd.f4 := (Option.some.inj (Tryd.func4.symm.trans hfn)).symm
   exact ⟨by kernel_rfl, fun j t ht => by
    have ht' : Tryd.f4.params[j]? = some t := ht
    rw [Tryd.params4] at ht'
    have hm : t ∈ [3, 3] := by simpa using Array.mem_of_getElem? ht'
    have hall : ([3, 3].all fun u => !Tryd.prog.wantsStandIn u) = true := by kernel_rfl
    exact (show Tryd.prog.wantsStandIn t = false by simpa using List.all_eq_true.1 hall t hm)⟩)
  (by kernel_rfl)
end Go.Proofs.YthdjgebbjogmiaaDoor.LawDirsLong
