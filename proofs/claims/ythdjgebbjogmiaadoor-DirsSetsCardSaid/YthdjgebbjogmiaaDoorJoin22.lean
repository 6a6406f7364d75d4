/- The reference's rows.
The document's Text, Tagged, Short: as the program's. Condition: rows of at most a million bytes. -/
import Derived.Test.YthdjgebbjogmiaaDoorJoin5
import Derived.Test.YthdjgebbjogmiaaDoorShaSumR
set_option linter.unusedVariables false
set_option linter.unusedSimpArgs false
namespace Go.Proofs.YthdjgebbjogmiaaDoor
open Go Go.RowKit Go.ChangeShapes Go.WideShapes Go.ChangeAt
set_option maxRecDepth 100000
set_option linter.unusedVariables false

set_option maxHeartbeats 1000000 in
theorem Net_ref (v : Value) (xs : List Int) (w : World) (hv : Bs w w.heap.size v xs) (hb : Bytes xs) (hn : xs.length ≤ 70368744177664) :
 Calls Tryd.prog 44 #[v] w fun e w' => ∃ v', e = .returned v' ∧ RowB w' w.heap.size v' (netF xs) ∧ Below w.heap.size w w' := by
 have HV := hide hv
 have HBX := hide hb
 obtain ⟨A, c, rfl, h1, h2, h3⟩ := hv.open_
 unfold maxLen at h2
 obtain ⟨n, HN⟩ : ∃ n, Hid (xs.length = n) := ⟨_, hide rfl⟩
 have HNF := hide (show netF xs = digB n ++ [58] ++ xs ++ [44] by rw [netF, HN.out])
 rw [HN.out] at h1 hn HV
 rw [HN.out]
 have HDL := hide (digits_bound n (by omega))
 have HDB := hide (digB_bytes n)
 obtain ⟨dd, HDD⟩ : ∃ d, Hid (digB n = d) := ⟨_, hide rfl⟩
 rw [HDD.out] at HNF HDL HDB
 clear hv hb h3
 go_enter Tryd.func44, Tryd.ntmps44
 go_wp2_with fail
 refine (Digits_ref n (by omega) w).mono ?_
 rintro e w1 ⟨s, rfl, hs, hb1⟩
 rw [HDD.out] at hs
 have hsl : s.size ≤ 19 := by rw [← strB_len, hs]; exact HDL.out
 have HS := hide hs
 have HB1 := hide hb1
 have hz1 := hb1.size
 clear hs hb1
 go_wp2_with (first
  | (refine wpList_to_bytes rfl _ rfl s rfl (by unfold maxLen; omega) ?_; intro v7 w2 ho7 hb2; have HO7 := hide ho7; have HB2 := hide hb2; have hz2 := hb2.size; clear ho7 hb2)
  | (refine wpList_lit rfl _ _ rfl [58] rfl (by omega) (by omega) rfl ?_; intro g3 w3 bk3 hg3 hb3; have HL3 := hide ((RowB.of_blk (base := 0) bk3 (by omega) (show Bytes [58] from fun x hx => by simp at hx; omega) (by decide)).reads); have HO7' := hide ((HO7.out.keptB hb3).more hz1); rw [HS.out] at HO7'; have HB3 := hide ((HB1.out.trans (HB2.out.mono hz1)).trans (hb3.mono (by omega))); have hz3 := hb3.size; clear bk3 hg3 hb3 HO7)
  | (at_builtin; refine wpList_append_B rfl _ _ rfl w.heap.size _ _ rfl HO7'.out _ _ [58] rfl HL3.out (by intro x hx; simp at hx; omega) (by have := HDL.out; simp; omega) (by omega) ?_; intro v9 w4 ho9 hg4; have hz4 := hg4.size; have HB4 := hide (HB3.out.grown hg4 (by omega) (fun k hk => (HO7'.out.base_ k hk).1)); have HO9 := hide ho9; have HV4 := hide (HV.out.below HB4.out (Nat.le_refl _)); clear ho9 hg4 HB3 HO7' HL3)
  | (at_builtin; refine wpList_append_B rfl _ _ rfl w.heap.size _ _ rfl HO9.out _ _ xs rfl HV4.out HBX.out (by have := HDL.out; simp [HN.out]; omega) (by omega) ?_; intro v12 w5 ho12 hg5; have hz5 := hg5.size; have HB5 := hide (HB4.out.grown hg5 (by omega) (fun k hk => (HO9.out.base_ k hk).1)); have HO12 := hide ho12; clear ho12 hg5 HB4 HO9 HV4)
  | (refine wpList_lit rfl _ _ rfl [44] rfl (by omega) (by omega) rfl ?_; intro g6 w6 bk6 hg6 hb6; have HL6 := hide ((RowB.of_blk (base := 0) bk6 (by omega) (show Bytes [44] from fun x hx => by simp at hx; omega) (by decide)).reads); have HO13 := hide (HO12.out.keptB hb6); have HB6 := hide (HB5.out.trans (hb6.mono (by omega))); have hz6 := hb6.size; clear bk6 hg6 hb6 HO12 HB5)
  | (at_builtin; refine wpList_append_B rfl _ _ rfl w.heap.size _ _ rfl HO13.out _ _ [44] rfl HL6.out (by intro x hx; simp at hx; omega) (by have := HDL.out; simp [HN.out]; omega) (by omega) ?_; intro v15 w7 ho15 hg7; have HB7 := hide (HB6.out.grown hg7 (by omega) (fun k hk => (HO13.out.base_ k hk).1)); have HO15 := hide ho15; clear ho15 hg7 HB6 HO13 HL6))
 go_ret
 exact ⟨_, rfl, by rw [HNF.out]; exact HO15.out, HB7.out⟩

set_option maxHeartbeats 1000000 in
theorem Nets_ref (v : Value) (rows : List (List Int)) (w : World) (hv : RowsB w w.heap.size v rows) (hb : ∀ x ∈ rows, Bytes x) (hl : ∀ x ∈ rows, x.length ≤ 1000000) (hn : rows.length ≤ 1000000) :
 Calls Tryd.prog 45 #[v] w fun e w' => ∃ v', e = .returned v' ∧ RowB w' w.heap.size v' (netsF rows) ∧ Below w.heap.size w w' := by
 have HV := hide hv
 have HBX := hide hb
 have HLX := hide hl
 obtain ⟨A, c, rfl, h1, h2, h3⟩ := hv.open_
 unfold maxLen at h2
 obtain ⟨n, HN⟩ : ∃ n, Hid (rows.length = n) := ⟨_, hide rfl⟩
 rw [HN.out] at h1 hn
 have HVV := hide (fun (w' : World) (hb : Below w.heap.size w w') => (hv.below hb (Nat.le_refl _)).open_)
 rw [HN.out]
 clear hv hb hl h3
 go_enter Tryd.func45, Tryd.ntmps45
 go_wp2_with fail
 go_loopw [3, 7] (fun v3 v7 wr => ∃ i : Nat, i ≤ n ∧ v7 = .int .i64 i ∧ RowB wr w.heap.size v3 (netsF (rows.take i)) ∧ Below w.heap.size w wr) (fun _ v7 _ => n - (intOf v7).toNat)
 case atStart => exact ⟨0, by omega, rfl, RowB.nil_ _ _, Below.refl _ _⟩
 case round =>
  obtain ⟨i, hi, rfl, ho, hbel⟩ := hrel
  have HO := hide ho
  have HB := hide hbel
  have hwz := hbel.size
  clear ho hbel
  by_cases hit : i < n
  · obtain ⟨A', c', e', _, _, h3⟩ := HVV.out wr HB.out
    injection e' with e1 e2 e3
    rw [← e1] at h3
    clear e1 e2 e3
    obtain ⟨b, o, rfl, hbb, hc⟩ := h3 (by rw [HN.out]; omega)
    obtain ⟨u, hu, hbu⟩ := hc i (by rw [HN.out]; exact hit)
    have hil : i < rows.length := by rw [HN.out]; exact hit
    have HBR := hide (HBX.out _ (List.getElem_mem hil))
    have HLR := hide (HLX.out _ (List.getElem_mem hil))
    have HNT := hide (netsF_take rows i hil)
    have HLN := hide (netsF_len rows HLX.out i (by omega))
    obtain ⟨r, HR⟩ : ∃ r, Hid (rows[i] = r) := ⟨_, hide rfl⟩
    rw [HR.out] at HBR HLR HNT hbu
    have HBU := hide hbu
    have HNB := hide (netF_bytes HBR.out)
    have HNL := hide (netF_len r HLR.out)
    have i0 : (0 : Int) ≤ (i : Int) := by omega
    have i1 : (i : Int) < (n : Int) := by omega
    have HCALL := hide (Net_ref u r wr (HBU.out.more hwz) HBR.out (by have := HLR.out; omega))
    clear hc hbu h3
    go_wp2_with fail
    refine HCALL.out.mono ?_
    rintro e w2 ⟨v14, rfl, ho14, hb2⟩
    have HO14 := hide ho14
    have HO' := hide (HO.out.keptB hb2)
    have HB2 := hide (HB.out.trans (hb2.mono hwz))
    have hz2 := hb2.size
    clear ho14 hb2 HO HB HCALL
    go_wp2_with (at_builtin; go_must (refine wpList_append_B rfl _ _ rfl w.heap.size _ _ rfl HO'.out _ _ (netF r) rfl HO14.out.reads HNB.out (by have := HNL.out; have := HLN.out; omega) (by omega) ?_); intro v15 w3 ho15 hg15; have HB3 := hide (HB2.out.grown hg15 (by omega) (fun k hk => (HO'.out.base_ k hk).1)); rw [← HNT.out] at ho15; have HO15 := hide ho15; clear ho15 hg15)
    go_roundw
    case measure => simp [intOf]; omega
    case rel => exact ⟨i + 1, by omega, by go_num, HO15.out, HB3.out⟩
  · have e : i = n := by omega
    subst e
    have i1 : ¬ (i : Int) < (i : Int) := by omega
    have HF := hide (show rows.take i = rows from List.take_of_length_le (by rw [HN.out]; exact Nat.le_refl _))
    rw [HF.out] at HO
    go_wp2_with fail
    go_ret
    exact ⟨_, rfl, HO.out, HB.out⟩
end Go.Proofs.YthdjgebbjogmiaaDoor

namespace Go.Proofs.YthdjgebbjogmiaaDoor
open Go Go.RowKit

theorem take_set (l : List Int) (i n : Nat) (h : i < l.length) (hn : i < n) : (l.take i ++ List.replicate (n - i) 0).set i (l.getD i 0) = l.take (i + 1) ++ List.replicate (n - (i + 1)) 0 := by
 obtain ⟨k, hk⟩ : ∃ k, n - i = k + 1 := ⟨n - i - 1, by omega⟩
 rw [hk, List.replicate_succ, List.set_append_right _ _ (by rw [List.length_take]; omega), List.length_take, Nat.min_eq_left (by omega), Nat.sub_self, List.set_cons_zero, List.take_succ_eq_append_getElem h, List.append_assoc, show n - (i + 1) = k by omega, List.getD_eq_getElem?_getD, List.getElem?_eq_getElem h]
 rfl
set_option maxRecDepth 100000
set_option maxHeartbeats 4000000
theorem Text_ref (s : ByteArray) (v : Value) (rows : List (List Int)) (w : World) (hv : RowsB w w.heap.size v rows) (hb : ∀ x ∈ rows, Bytes x) (hl : ∀ x ∈ rows, x.length ≤ 1000000) (hn : rows.length ≤ 1000) (hs : s.size ≤ 1000) :
 Calls Tryd.prog 73 #[.string s, v] w fun e w' => ∃ v', e = .returned v' ∧ RowB w' w.heap.size v' (textF (strB s) rows) ∧ Below w.heap.size w w' := by
 have HV := hide hv
 have HBR := hide hb
 have HLR := hide hl
 have HNL := hide (show (netF (strB s)).length ≤ 1000021 from netF_len _ (by rw [strB_len]; omega))
 have HSL := hide (show (netsF rows).length ≤ 1000021000 by
  have := netsF_len rows hl rows.length (Nat.le_refl _)
  rw [List.take_length] at this
  have : rows.length * 1000021 ≤ 1000 * 1000021 := Nat.mul_le_mul_right _ hn
  omega)
 have HTX := hide (show netF (strB s) ++ netsF rows = textF (strB s) rows from rfl)
 have HNB := hide (netsF_bytes rows hb)
 obtain ⟨TX, HTT⟩ : ∃ x, Hid (textF (strB s) rows = x) := ⟨_, hide rfl⟩
 rw [HTT.out] at HTX ⊢
 clear hv hb hl
 go_enter Tryd.func73, Tryd.ntmps73
 go_wp2_with (refine wpList_to_bytes rfl _ rfl s rfl (by unfold maxLen; omega) ?_; intro v6 w1 ho1 hb1; have HO1 := hide ho1; have HB1 := hide hb1; have hz1 := hb1.size; clear ho1 hb1)
 refine (Net_ref _ (strB s) _ HO1.out.reads (strB_bytes s) (by rw [strB_len]; omega)).mono ?_
 rintro e w2 ⟨v7, rfl, ho2, hb2⟩
 have HO2 := hide (ho2.more hz1)
 have HB2 := hide (HB1.out.trans (hb2.mono hz1))
 have hz2 := HB2.out.size
 clear ho2 hb2
 go_wp2_with fail
 refine (Nets_ref _ rows _ ((HV.out.below HB2.out (Nat.le_refl _)).more hz2) HBR.out HLR.out (by omega)).mono ?_
 rintro e w3 ⟨v9, rfl, ho3, hb3⟩
 have HO3 := hide ho3.reads
 have HO4 := hide (HO2.out.keptB hb3)
 have HB3 := hide (HB2.out.trans (hb3.mono hz2))
 have hz3 := HB3.out.size
 clear ho3 hb3 HO2 HB2
 go_wp2_with (at_builtin; refine wpList_append_B rfl _ _ rfl w.heap.size v7 _ rfl HO4.out _ _ (netsF rows) rfl HO3.out HNB.out (by have := HNL.out; have := HSL.out; omega) hz3 ?_; intro v10 w4 ho4 hg4; rw [HTX.out] at ho4; have HO5 := hide ho4; have HB4 := hide (HB3.out.grown hg4 hz3 (fun k hk => (HO4.out.base_ k hk).1)); clear ho4 hg4)
 go_ret
 exact ⟨_, rfl, HO5.out, HB4.out⟩
theorem Tagged_ref (s : ByteArray) (v : Value) (rows : List (List Int)) (w : World) (hv : RowsB w w.heap.size v rows) (hb : ∀ x ∈ rows, Bytes x) (hl : ∀ x ∈ rows, x.length ≤ 1000000) (hn : rows.length ≤ 1000) (hs : s.size ≤ 1000) :
 Calls Tryd.prog 57 #[.string s, v] w fun e w' => e = .returned (.agg (u8s (taggedF (strB s) rows)).toArray) ∧ Below w.heap.size w w' := by
 have HV := hide hv
 have HBR := hide hb
 have HLR := hide hl
 obtain ⟨TX, HTT⟩ : ∃ x, Hid (textF (strB s) rows = x) := ⟨_, hide rfl⟩
 have HTB := hide (show Bytes TX by rw [← HTT.out]; exact (netF_bytes (strB_bytes s)).app (netsF_bytes rows hb))
 have HTL := hide (show TX.length ≤ 70368744177664 by
  rw [← HTT.out, textF, List.length_append]
  have h1 : (netF (strB s)).length ≤ 1000021 := netF_len _ (by rw [strB_len]; omega)
  have := netsF_len rows hl rows.length (Nat.le_refl _)
  rw [List.take_length] at this
  have : rows.length * 1000021 ≤ 1000 * 1000021 := Nat.mul_le_mul_right _ hn
  omega)
 obtain ⟨RES, HRES⟩ : ∃ x, Hid (taggedF (strB s) rows = x) := ⟨_, hide rfl⟩
 have HRS := hide (show shaF TX = RES by rw [← HRES.out, ← HTT.out]; rfl)
 have HRL := hide (show RES.length = 32 by rw [← HRS.out]; exact shaF_len _)
 rw [HRES.out]
 clear hv hb hl
 go_enter Tryd.func57, Tryd.ntmps57
 obtain ⟨gr, hgr⟩ : ∃ n, w.heap.size = n := ⟨_, rfl⟩
 go_wp2_with (refine wpList_alloc_blk rfl 25 rfl _ zero_hash ?_; intro w1 hb1 hw1 hs1; have HR1 := hide hb1; have HB1 := hide hw1; have hz1 := hw1.size; clear hb1 hw1)
 refine (Text_ref s v rows _ ((HV.out.below HB1.out (Nat.le_refl _)).more hz1) HBR.out HLR.out hn hs).mono ?_
 rintro e w2 ⟨v7, rfl, ho2, hb2⟩
 rw [HTT.out] at ho2
 have HO2 := hide ho2.reads
 have HB2 := hide (HB1.out.trans (hb2.mono hz1))
 have HR2 := hide (HR1.out.below hb2 (by omega))
 have hz2 := HB2.out.size
 clear ho2 hb2
 go_wp2_with fail
 refine (Sum_ref v7 TX _ HO2.out HTB.out HTL.out).mono ?_
 rintro e w3 ⟨rfl, hb3⟩
 rw [HRS.out]
 have HB3 := hide (HB2.out.trans (hb3.mono hz2))
 have HR3 := hide (HR2.out.below hb3 HR2.out.lt)
 clear hb3
 go_wp2_with (refine wpList_store_blk rfl 25 _ _ rfl gr 0 (u8s RES) rfl rfl _ _ (by rw [← hgr]; exact HR3.out) (by rw [u8s_len, u8s_len, HRL.out]; simp) (by rw [u8s_len, HRL.out]; exact size_hash) (u8s_one _) ?_; intro w7 hb7 hg7 hs7; rw [lset_all _ _ (by rw [u8s_len, u8s_len, HRL.out]; rfl)] at hb7; have HR7 := hide hb7; have HB7 := hide (HB3.out.grown hg7 (by have := HB3.out.size; omega) (by intro k hk; simp at hk; omega)); clear hb7 hg7)
 refine bodyPost_ret (v := .agg (u8s RES).toArray) (results_cell_row rfl _ _ gr 25 _ (0, 0) _ rfl HR7.out Tryd.underlying25 rfl (by rw [List.size_toArray, u8s_len, HRL.out]; exact size_hash)) rfl ?_
 exact ⟨rfl, HB7.out⟩
theorem Short_ref (s : ByteArray) (v : Value) (rows : List (List Int)) (w : World) (hv : RowsB w w.heap.size v rows) (hb : ∀ x ∈ rows, Bytes x) (hl : ∀ x ∈ rows, x.length ≤ 1000000) (hn : rows.length ≤ 1000) (hs : s.size ≤ 1000) :
 Calls Tryd.prog 35 #[.string s, v] w fun e w' => e = .returned (.agg (u8s (shortF (strB s) rows)).toArray) ∧ Below w.heap.size w w' := by
 have HV := hide hv
 have HBR := hide hb
 have HLR := hide hl
 obtain ⟨RES, HRES⟩ : ∃ x, Hid (taggedF (strB s) rows = x) := ⟨_, hide rfl⟩
 have HRL := hide (show RES.length = 32 by rw [← HRES.out]; exact taggedF_len _ _)
 obtain ⟨SH, HSH⟩ : ∃ x, Hid (shortF (strB s) rows = x) := ⟨_, hide rfl⟩
 have HSL := hide (show SH.length = 16 by rw [← HSH.out]; exact shortF_len _ _)
 have HSX := hide (show RES.take 16 = SH by rw [← HSH.out, ← HRES.out]; rfl)
 rw [HSH.out]
 clear hv hb hl
 go_enter Tryd.func35, Tryd.ntmps35
 obtain ⟨gr, hgr⟩ : ∃ n, w.heap.size = n := ⟨_, rfl⟩
 go_wp2_with (refine wpList_alloc_blk rfl 23 rfl _ zero_key ?_; intro w1 hb1 hw1 hs1; have HR1 := hide hb1; have HB1 := hide hw1; have hz1 := hw1.size; clear hb1 hw1)
 refine (Tagged_ref s v rows _ ((HV.out.below HB1.out (Nat.le_refl _)).more hz1) HBR.out HLR.out hn hs).mono ?_
 rintro e w2 ⟨rfl, hb2⟩
 rw [HRES.out]
 have HB2 := hide (HB1.out.trans (hb2.mono hz1))
 have HR2 := hide (HR1.out.below hb2 (by omega))
 have hz2 := HB2.out.size
 clear hb2
 obtain ⟨g5, hg5⟩ : ∃ n, w2.heap.size = n := ⟨_, rfl⟩
 have hg5r : gr < g5 := by have := HR2.out.lt; omega
 go_wp2_with (first
  | (refine wpList_alloc_blk rfl 25 rfl _ zero_hash ?_; intro w3 hb3 hw3 hs3; rw [hg5] at hb3 ⊢; have HX3 := hide hb3; have HB3 := hide (HB2.out.trans (hw3.mono hz2)); have HR3 := hide (HR2.out.below hw3 HR2.out.lt); clear hb3 hw3 HR2)
  | (refine wpList_store_blk rfl 25 _ _ rfl g5 0 (u8s RES) rfl rfl _ _ HX3.out (by rw [u8s_len, u8s_len, HRL.out]; simp) (by rw [u8s_len, HRL.out]; exact size_hash) (u8s_one _) ?_; intro w4 hb4 hg4 hs4; rw [lset_all _ _ (by rw [u8s_len, u8s_len, HRL.out]; rfl)] at hb4; have HX4 := hide hb4; have HR4 := hide (HR3.out.grown hg4 (by intro he; injection he with he; omega)); have HB4 := hide (HB3.out.grown hg4 (by have := HB3.out.size; omega) (by intro k hk; simp at hk; omega)); have hg6 : w4.heap.size = g5 + 1 := (by omega); clear hb4 hg4 HX3 HR3)
  | (refine wpList_alloc_blk rfl 23 rfl _ zero_key ?_; intro w5 hb5 hw5 hs5; rw [hg6] at hb5 ⊢; have HY5 := hide hb5; have HB5 := hide (HB4.out.trans (hw5.mono HB4.out.size)); have HR5 := hide (HR4.out.below hw5 HR4.out.lt); have HX5 := hide (HX4.out.below hw5 HX4.out.lt); clear hb5 hw5 HX4 HR4))
 go_loopw [11] (fun v11 wr => ∃ i : Nat, i ≤ 16 ∧ v11 = .int .i64 i ∧ Blk wr (g5 + 1) 23 (u8s (RES.take i ++ List.replicate (16 - i) 0)) ∧ Blk wr g5 25 (u8s RES) ∧ Blk wr gr 23 (u8s (List.replicate 16 0)) ∧ Below w.heap.size w wr) (fun v11 _ => 16 - (intOf v11).toNat)
 case atStart => exact ⟨0, by omega, rfl, HY5.out, HX5.out, by rw [← hgr]; exact HR5.out, HB5.out⟩
 case round =>
  obtain ⟨i, hi, rfl, hy, hx, hr, hw⟩ := hrel
  clear HY5 HX5 HR5 HB5
  have HY := hide hy
  have HX := hide hx
  have HR := hide hr
  have HW := hide hw
  clear hy hx hr hw
  by_cases hi16 : i < 16
  · have HST := hide (show (RES.take i ++ List.replicate (16 - i) 0).set i (RES.getD i 0) = RES.take (i + 1) ++ List.replicate (16 - (i + 1)) 0 from take_set RES i 16 (by rw [HRL.out]; omega) hi16)
    have HYL := hide (show (RES.take i ++ List.replicate (16 - i) 0).length = 16 by rw [List.length_append, List.length_take, List.length_replicate, HRL.out]; omega)
    obtain ⟨X, HXX⟩ : ∃ x, Hid (RES.getD i 0 = x) := ⟨_, hide rfl⟩
    obtain ⟨Y, HYY⟩ : ∃ x, Hid (RES.take i ++ List.replicate (16 - i) 0 = x) := ⟨_, hide rfl⟩
    rw [HXX.out, HYY.out] at HST
    rw [HYY.out] at HY HYL
    have cx := blk_get HX.out i X (by rw [HRL.out]; omega) HXX.out
    have i16 : (i : Int) < 16 := by omega
    have i32 : (i : Int) < 32 := by omega
    have i0 : (0 : Int) ≤ (i : Int) := by omega
    go_wp2_with (first
     | (refine wpList_u8_put rfl _ _ rfl (g5 + 1) i 23 Y rfl HY.out (by rw [HYL.out]; exact hi16) X rfl ?_; intro w8 hb8 hg8 hs8; rw [HST.out] at hb8; have HY8 := hide hb8; have HX8 := hide (HX.out.grown hg8 (by intro he; injection he with he; omega)); have HR8 := hide (HR.out.grown hg8 (by intro he; injection he with he; omega)); have HW8 := hide (HW.out.grown hg8 (by have := HW.out.size; omega) (by intro k hk; simp at hk; omega)); clear hb8 hg8 cx))
    go_roundw
    case measure => simp [intOf]; omega
    case rel => exact ⟨i + 1, by omega, by go_num, HY8.out, HX8.out, HR8.out, HW8.out⟩
  · have e : i = 16 := by omega
    subst e
    have e16 : List.take 16 RES ++ List.replicate (16 - 16) 0 = SH := by rw [HSX.out]; simp
    rw [e16] at HY
    clear e16
    go_wp2_with (first
     | (refine wpList_load_mid rfl 23 _ rfl (g5 + 1) 0 rfl (u8s SH) _ (blk_range HY.out 0 _ (fun j u hu => by rw [Nat.zero_add]; exact hu)) Tryd.underlying23 rfl (by rw [u8s_len, HSL.out]; exact size_key) ?_)
     | (refine wpList_store_blk rfl 23 _ _ rfl gr 0 (u8s SH) rfl rfl _ _ HR.out (by rw [u8s_len, u8s_len, HSL.out]; simp) (by rw [u8s_len, HSL.out]; exact size_key) (u8s_one _) ?_; intro w7 hb7 hg7 hs7; rw [lset_all _ _ (by rw [u8s_len, u8s_len, HSL.out]; rfl)] at hb7; have HR7 := hide hb7; have HB7 := hide (HW.out.grown hg7 HW.out.size (by intro k hk; simp at hk; omega)); clear hb7 hg7))
    refine bodyPost_ret (v := .agg (u8s SH).toArray) (results_cell_row rfl _ _ gr 23 _ (0, 0) _ rfl HR7.out Tryd.underlying23 rfl (by rw [List.size_toArray, u8s_len, HSL.out]; exact size_key)) rfl ?_
    exact ⟨rfl, HB7.out⟩
end Go.Proofs.YthdjgebbjogmiaaDoor
