/- aumbrykeep.Entries: are they the same entries? No condition. -/
import Derived.Test.YthdjgebbjogmiaaDoorDirRight
import Derived.Test.YthdjgebbjogmiaaDoorJoin12
set_option linter.unusedVariables false
set_option linter.unusedSimpArgs false
namespace Go.Proofs.YthdjgebbjogmiaaDoor
open Go Go.RowKit
set_option linter.unusedVariables false
set_option linter.unusedSimpArgs false
set_option maxRecDepth 100000
def entEq (x y : EntD) : Bool := decide (x.name = y.name) && (sameF x.read y.read && (sameF x.write y.write && (x.has == y.has)))
theorem entEq_iff (x y : EntD) : entEq x y = true ↔ x = y := by
 obtain ⟨a1, a2, a3, a4⟩ := x
 obtain ⟨b1, b2, b3, b4⟩ := y
 simp [entEq, sameF_iff]
def entsEq : List EntD → List EntD → Bool
 | [], [] => true
 | x :: l, y :: m => entEq x y && entsEq l m
 | _, _ => false
theorem entsEq_iff : ∀ (l m : List EntD), entsEq l m = true ↔ l = m
 | [], [] => by simp [entsEq]
 | x :: l, y :: m => by simp [entsEq, entEq_iff, entsEq_iff l m]
 | [], y :: m => by simp [entsEq]
 | x :: l, [] => by simp [entsEq]
theorem entsEq_no {l m : List EntD} (h : l ≠ m) : entsEq l m = false := by
 cases h' : entsEq l m
 · rfl
 · exact absurd ((entsEq_iff l m).1 h') h
set_option maxHeartbeats 8000000
theorem keep_ents (va vb : Value) (la lb : List EntD) (w : World) (B : Nat) (hB : B ≤ w.heap.size) (ha : EntsB w B va la) (hb : EntsB w B vb lb) :
 Calls Tryd.prog 23 #[va, vb] w fun e w' => e = .returned (.bool (entsEq la lb)) ∧ Below B w w' := by
 obtain ⟨A, ca, rfl, h1, h2, h3⟩ := ha
 obtain ⟨A', cb, rfl, h1', h2', h3'⟩ := hb
 unfold maxLen at h2 h2'
 have HA := hide h3
 have HA' := hide h3'
 obtain ⟨n, HN⟩ : ∃ n, Hid (la.length = n) := ⟨_, hide rfl⟩
 obtain ⟨m, HM⟩ : ∃ n, Hid (lb.length = n) := ⟨_, hide rfl⟩
 obtain ⟨R, HR⟩ : ∃ r, Hid (entsEq la lb = r) := ⟨_, hide rfl⟩
 rw [HR.out]
 have HBe := hide (Below.refl B w)
 rw [HN.out] at h1 ⊢
 rw [HM.out] at h1' ⊢
 clear h3 h3'
 by_cases hnm : n = m
 case neg =>
  have HNO := hide (show R = false by rw [← HR.out]; exact entsEq_no (fun h => hnm (by rw [← HN.out, ← HM.out, h])))
  have hne : ((n : Int) != (m : Int)) = true := by simp; omega
  have HB2 := HBe
  clear hnm
  go_enter Tryd.func23, Tryd.ntmps23
  go_wp2_with fail
  go_ret
  exact ⟨by rw [HNO.out]; rfl, HB2.out⟩
 subst hnm
 have hne0 : ((n : Int) != (n : Int)) = false := by simp
 have HT0 := hide (show la.take 0 = lb.take 0 by simp)
 go_enter Tryd.func23, Tryd.ntmps23
 go_wp2_with fail
 go_loopw [13] (fun v13 wr => ∃ i : Nat, v13 = .int .i64 (i : Int) ∧ i ≤ n ∧ la.take i = lb.take i ∧ Below B w wr) (fun v13 _ => n - (intOf v13).toNat)
 case atStart => exact ⟨0, by go_num, by omega, HT0.out, HBe.out⟩
 case round =>
  obtain ⟨i, rfl, hin, ht, hbel⟩ := hrel
  have HT := hide ht
  have HB := hide hbel
  have hws := hbel.size
  clear ht hbel
  by_cases hlt : i < n
  · have hlt' : (i : Int) < (n : Int) := by omega
    obtain ⟨ba, oa, rfl, hba, hca⟩ := HA.out (by rw [HN.out]; omega)
    obtain ⟨bb, ob, rfl, hbb, hcb⟩ := HA'.out (by rw [HM.out]; omega)
    obtain ⟨lr, lw, hok1, hrg1⟩ := hca i (by rw [HN.out]; exact hlt)
    obtain ⟨kr, kw, hok2, hrg2⟩ := hcb i (by rw [HM.out]; exact hlt)
    have HSN := hide (show la.take (i + 1) = la.take i ++ [la[i]'(by rw [HN.out]; exact hlt)] from List.take_succ_eq_append_getElem _)
    have HSM2 := hide (show lb.take (i + 1) = lb.take i ++ [lb[i]'(by rw [HM.out]; exact hlt)] from List.take_succ_eq_append_getElem _)
    have HDIF := hide (show la[i]'(by rw [HN.out]; exact hlt) ≠ lb[i]'(by rw [HM.out]; exact hlt) → R = false from fun h => by
     rw [← HR.out]
     refine entsEq_no (fun e => h ?_)
     subst e; rfl)
    obtain ⟨x, HX⟩ : ∃ x, Hid (la[i]'(by rw [HN.out]; exact hlt) = x) := ⟨_, hide rfl⟩
    obtain ⟨y, HY⟩ : ∃ x, Hid (lb[i]'(by rw [HM.out]; exact hlt) = x) := ⟨_, hide rfl⟩
    rw [HX.out] at hok1 hrg1 HSN HDIF
    rw [HY.out] at hok2 hrg2 HSM2 HDIF
    have HXN := hide (show w.cell? ⟨ba, oa + i * 108, none⟩ = some (.string (strOfNums x.name)) by have := hrg1 0 _ ent_name; rwa [Nat.add_zero] at this)
    have HXR := hide (fun (j : Nat) (u : Value) (hu : (capCells x.read lr)[j]? = some u) => show w.cell? ⟨ba, oa + i * 108 + 1 + j, none⟩ = some u by rw [Nat.add_assoc]; exact hrg1 (1 + j) u (ent_read hok1 j u hu))
    have HXW := hide (fun (j : Nat) (u : Value) (hu : (capCells x.write lw)[j]? = some u) => show w.cell? ⟨ba, oa + i * 108 + 54 + j, none⟩ = some u by rw [Nat.add_assoc]; exact hrg1 (54 + j) u (ent_write hok1 j u hu))
    obtain ⟨hx, HXHE⟩ : ∃ q, Hid (x.has = q) := ⟨_, hide rfl⟩
    have HXH := hide (show w.cell? ⟨ba, oa + i * 108 + 107, none⟩ = some (.bool hx) by rw [← HXHE.out]; exact hrg1 107 _ (ent_has hok1))
    have HXB := hide hok1.nameB
    have HXSR := hide (show (Tryd.prog.info? 28).map (·.size) = some (capCells x.read lr).length by rw [cc_len lr hok1.rWf.keyL hok1.rWf.fpL]; exact size_cap)
    have HXSW := hide (show (Tryd.prog.info? 28).map (·.size) = some (capCells x.write lw).length by rw [cc_len lw hok1.wWf.keyL hok1.wWf.fpL]; exact size_cap)
    have HYN := hide (show w.cell? ⟨bb, ob + i * 108, none⟩ = some (.string (strOfNums y.name)) by have := hrg2 0 _ ent_name; rwa [Nat.add_zero] at this)
    have HYR := hide (fun (j : Nat) (u : Value) (hu : (capCells y.read kr)[j]? = some u) => show w.cell? ⟨bb, ob + i * 108 + 1 + j, none⟩ = some u by rw [Nat.add_assoc]; exact hrg2 (1 + j) u (ent_read hok2 j u hu))
    have HYW := hide (fun (j : Nat) (u : Value) (hu : (capCells y.write kw)[j]? = some u) => show w.cell? ⟨bb, ob + i * 108 + 54 + j, none⟩ = some u by rw [Nat.add_assoc]; exact hrg2 (54 + j) u (ent_write hok2 j u hu))
    obtain ⟨hy, HYHE⟩ : ∃ q, Hid (y.has = q) := ⟨_, hide rfl⟩
    have HYH := hide (show w.cell? ⟨bb, ob + i * 108 + 107, none⟩ = some (.bool hy) by rw [← HYHE.out]; exact hrg2 107 _ (ent_has hok2))
    have HYB := hide hok2.nameB
    have HYSR := hide (show (Tryd.prog.info? 28).map (·.size) = some (capCells y.read kr).length by rw [cc_len kr hok2.rWf.keyL hok2.rWf.fpL]; exact size_cap)
    have HYSW := hide (show (Tryd.prog.info? 28).map (·.size) = some (capCells y.write kw).length by rw [cc_len kw hok2.wWf.keyL hok2.wWf.fpL]; exact size_cap)
    have HCRq := hide (fun (q : Bool) (hq : sameF x.read y.read = q) (w' : World) (hS : Below B w w') => (same_cap x.read y.read lr kr w' hok1.rWf.keyL hok1.rWf.fpL hok2.rWf.keyL hok2.rWf.fpL ((hok1.r1.below hS (Nat.le_refl _)).more (Nat.le_trans hB hS.size)) ((hok2.r1.below hS (Nat.le_refl _)).more (Nat.le_trans hB hS.size)) hok1.rWf.litB hok2.rWf.litB).mono (fun e w'' hh => (⟨by rw [hh.1, hq], hS.trans (hh.2.mono (Nat.le_trans hB hS.size))⟩ : e = .returned (.bool q) ∧ Below B w w'')))
    have HCWq := hide (fun (q : Bool) (hq : sameF x.write y.write = q) (w' : World) (hS : Below B w w') => (same_cap x.write y.write lw kw w' hok1.wWf.keyL hok1.wWf.fpL hok2.wWf.keyL hok2.wWf.fpL ((hok1.w1.below hS (Nat.le_refl _)).more (Nat.le_trans hB hS.size)) ((hok2.w1.below hS (Nat.le_refl _)).more (Nat.le_trans hB hS.size)) hok1.wWf.litB hok2.wWf.litB).mono (fun e w'' hh => (⟨by rw [hh.1, hq], hS.trans (hh.2.mono (Nat.le_trans hB hS.size))⟩ : e = .returned (.bool q) ∧ Below B w w'')))
    have HEE := hide (show entEq x y = (decide (x.name = y.name) && (sameF x.read y.read && (sameF x.write y.write && (hx == hy)))) by rw [← HXHE.out, ← HYHE.out]; rfl)
    have HDF := hide (show entEq x y = false → R = false from fun h => HDIF.out (fun e => by rw [(entEq_iff x y).2 e] at h; cases h))
    clear hok1 hrg1 hok2 hrg2 HDIF
    go_upto_region 6 with fail
    obtain ⟨nn, HNN⟩ : ∃ q, Hid (decide (x.name = y.name) = !q) := ⟨!decide (x.name = y.name), hide (by rw [Bool.not_not])⟩
    rw [HNN.out] at HEE
    rcases nn with _ | _
    case true =>
     have HNO := hide (HDF.out (by rw [HEE.out]; rfl))
     refine wp_region_qw (Below B w) (by kernel_rfl) (by kernel_rfl) HB.out.drew ?_
     refine qw_val (v := .slice (some ⟨ba, oa, none⟩) n ca) 16 rfl (by kernel_rfl) (fun w' hS => exec_move _ rfl (.slice (some ⟨ba, oa, none⟩) n ca) rfl) ?_
     simp only [Act.put, s1_, s2_, s3_]
     refine qw_val (v := .int .i64 ((i : Int))) 17 rfl (by kernel_rfl) (fun w' hS => exec_move _ rfl (.int .i64 ((i : Int))) rfl) ?_
     simp only [Act.put, s1_, s2_, s3_]
     refine qw_val (v := .pointer (some ⟨ba, oa + i * 108, none⟩)) 18 rfl (by kernel_rfl) (fun w' hS => exec_indexG _ _ _ rfl _ n ca ba oa 108 i rfl rfl rfl (by omega) (by kernel_rfl) _ (by omega)) ?_
     simp only [Act.put, s1_, s2_, s3_]
     refine qw_val (v := .pointer (some ⟨ba, oa + i * 108, none⟩)) 19 rfl (by kernel_rfl) (fun w' hS => exec_fieldG _ _ 0 0 rfl ba (oa + i * 108) rfl (by kernel_rfl) _ (by first | rfl | omega)) ?_
     simp only [Act.put, s1_, s2_, s3_]
     refine qw_val (v := .string (strOfNums x.name)) 20 rfl (by kernel_rfl) (fun w' hS => exec_load_one _ _ rfl ba (oa + i * 108) rfl _ Tryd.underlying9 rfl _ ((hS.cell (p := ⟨ba, oa + i * 108, none⟩) hba).trans HXN.out)) ?_
     simp only [Act.put, s1_, s2_, s3_]
     refine qw_val (v := .slice (some ⟨bb, ob, none⟩) n cb) 21 rfl (by kernel_rfl) (fun w' hS => exec_move _ rfl (.slice (some ⟨bb, ob, none⟩) n cb) rfl) ?_
     simp only [Act.put, s1_, s2_, s3_]
     refine qw_val (v := .int .i64 ((i : Int))) 22 rfl (by kernel_rfl) (fun w' hS => exec_move _ rfl (.int .i64 ((i : Int))) rfl) ?_
     simp only [Act.put, s1_, s2_, s3_]
     refine qw_val (v := .pointer (some ⟨bb, ob + i * 108, none⟩)) 23 rfl (by kernel_rfl) (fun w' hS => exec_indexG _ _ _ rfl _ n cb bb ob 108 i rfl rfl rfl (by omega) (by kernel_rfl) _ (by omega)) ?_
     simp only [Act.put, s1_, s2_, s3_]
     refine qw_val (v := .pointer (some ⟨bb, ob + i * 108, none⟩)) 24 rfl (by kernel_rfl) (fun w' hS => exec_fieldG _ _ 0 0 rfl bb (ob + i * 108) rfl (by kernel_rfl) _ (by first | rfl | omega)) ?_
     simp only [Act.put, s1_, s2_, s3_]
     refine qw_val (v := .string (strOfNums y.name)) 25 rfl (by kernel_rfl) (fun w' hS => exec_load_one _ _ rfl bb (ob + i * 108) rfl _ Tryd.underlying9 rfl _ ((hS.cell (p := ⟨bb, ob + i * 108, none⟩) hbb).trans HYN.out)) ?_
     simp only [Act.put, s1_, s2_, s3_]
     refine qw_val (v := .bool true) 26 rfl (by kernel_rfl) (fun w' hS => exec_neq_name _ _ _ rfl x.name y.name rfl rfl HXB.out HYB.out true HNN.out) ?_
     simp only [Act.put, s1_, s2_, s3_]
     refine qw_val (v := .bool true) 27 rfl (by kernel_rfl) (fun w' hS => exec_move _ rfl (.bool true) rfl) ?_
     simp only [Act.put, s1_, s2_, s3_]
     refine qw_skip 28 rfl (by kernel_rfl) ?_
     simp only [Act.put, s1_, s2_, s3_]
     refine qw_skip 29 rfl (by kernel_rfl) ?_
     simp only [Act.put, s1_, s2_, s3_]
     refine qw_skip 30 rfl (by kernel_rfl) ?_
     simp only [Act.put, s1_, s2_, s3_]
     refine qw_skip 31 rfl (by kernel_rfl) ?_
     simp only [Act.put, s1_, s2_, s3_]
     refine qw_skip 32 rfl (by kernel_rfl) ?_
     simp only [Act.put, s1_, s2_, s3_]
     refine qw_skip 33 rfl (by kernel_rfl) ?_
     simp only [Act.put, s1_, s2_, s3_]
     refine qw_skip 34 rfl (by kernel_rfl) ?_
     simp only [Act.put, s1_, s2_, s3_]
     refine qw_skip 35 rfl (by kernel_rfl) ?_
     simp only [Act.put, s1_, s2_, s3_]
     refine qw_skip 36 rfl (by kernel_rfl) ?_
     simp only [Act.put, s1_, s2_, s3_]
     refine qw_skip 37 rfl (by kernel_rfl) ?_
     simp only [Act.put, s1_, s2_, s3_]
     refine qw_skip 38 rfl (by kernel_rfl) ?_
     simp only [Act.put, s1_, s2_, s3_]
     refine qw_skip 39 rfl (by kernel_rfl) ?_
     simp only [Act.put, s1_, s2_, s3_]
     refine qw_val (v := .bool true) 40 rfl (by kernel_rfl) (fun w' hS => exec_pickG _ _ _ rfl true rfl _ rfl) ?_
     simp only [Act.put, s1_, s2_, s3_]
     refine qw_val (v := .bool true) 41 rfl (by kernel_rfl) (fun w' hS => exec_move _ rfl (.bool true) rfl) ?_
     simp only [Act.put, s1_, s2_, s3_]
     refine qw_skip 42 rfl (by kernel_rfl) ?_
     simp only [Act.put, s1_, s2_, s3_]
     refine qw_skip 43 rfl (by kernel_rfl) ?_
     simp only [Act.put, s1_, s2_, s3_]
     refine qw_skip 44 rfl (by kernel_rfl) ?_
     simp only [Act.put, s1_, s2_, s3_]
     refine qw_skip 45 rfl (by kernel_rfl) ?_
     simp only [Act.put, s1_, s2_, s3_]
     refine qw_skip 46 rfl (by kernel_rfl) ?_
     simp only [Act.put, s1_, s2_, s3_]
     refine qw_skip 47 rfl (by kernel_rfl) ?_
     simp only [Act.put, s1_, s2_, s3_]
     refine qw_skip 48 rfl (by kernel_rfl) ?_
     simp only [Act.put, s1_, s2_, s3_]
     refine qw_skip 49 rfl (by kernel_rfl) ?_
     simp only [Act.put, s1_, s2_, s3_]
     refine qw_skip 50 rfl (by kernel_rfl) ?_
     simp only [Act.put, s1_, s2_, s3_]
     refine qw_skip 51 rfl (by kernel_rfl) ?_
     simp only [Act.put, s1_, s2_, s3_]
     refine qw_skip 52 rfl (by kernel_rfl) ?_
     simp only [Act.put, s1_, s2_, s3_]
     refine qw_skip 53 rfl (by kernel_rfl) ?_
     simp only [Act.put, s1_, s2_, s3_]
     refine qw_val (v := .bool true) 54 rfl (by kernel_rfl) (fun w' hS => exec_pickG _ _ _ rfl true rfl _ rfl) ?_
     simp only [Act.put, s1_, s2_, s3_]
     refine qw_val (v := .bool true) 55 rfl (by kernel_rfl) (fun w' hS => exec_move _ rfl (.bool true) rfl) ?_
     simp only [Act.put, s1_, s2_, s3_]
     refine qw_skip 56 rfl (by kernel_rfl) ?_
     simp only [Act.put, s1_, s2_, s3_]
     refine qw_skip 57 rfl (by kernel_rfl) ?_
     simp only [Act.put, s1_, s2_, s3_]
     refine qw_skip 58 rfl (by kernel_rfl) ?_
     simp only [Act.put, s1_, s2_, s3_]
     refine qw_skip 59 rfl (by kernel_rfl) ?_
     simp only [Act.put, s1_, s2_, s3_]
     refine qw_skip 60 rfl (by kernel_rfl) ?_
     simp only [Act.put, s1_, s2_, s3_]
     refine qw_skip 61 rfl (by kernel_rfl) ?_
     simp only [Act.put, s1_, s2_, s3_]
     refine qw_skip 62 rfl (by kernel_rfl) ?_
     simp only [Act.put, s1_, s2_, s3_]
     refine qw_skip 63 rfl (by kernel_rfl) ?_
     simp only [Act.put, s1_, s2_, s3_]
     refine qw_skip 64 rfl (by kernel_rfl) ?_
     simp only [Act.put, s1_, s2_, s3_]
     refine qw_skip 65 rfl (by kernel_rfl) ?_
     simp only [Act.put, s1_, s2_, s3_]
     refine qw_skip 66 rfl (by kernel_rfl) ?_
     simp only [Act.put, s1_, s2_, s3_]
     refine qw_val (v := .bool true) 67 rfl (by kernel_rfl) (fun w' hS => exec_pickG _ _ _ rfl true rfl _ rfl) ?_
     simp only [Act.put, s1_, s2_, s3_]
     refine qw_nil ?_
     intro w2 hS
     have HB2 := hide hS
     clear hS
     go_wp2_with fail
     go_ret
     exact ⟨by rw [HNO.out]; rfl, HB2.out⟩
    rcases hqr : sameF x.read y.read with _ | _
    · have HNO := hide (HDF.out (by rw [HEE.out, hqr]; rfl))
      have HCR := hide (HCRq.out false hqr)
      clear hqr
      refine wp_region_qw (Below B w) (by kernel_rfl) (by kernel_rfl) HB.out.drew ?_
      refine qw_val (v := .slice (some ⟨ba, oa, none⟩) n ca) 16 rfl (by kernel_rfl) (fun w' hS => exec_move _ rfl (.slice (some ⟨ba, oa, none⟩) n ca) rfl) ?_
      simp only [Act.put, s1_, s2_, s3_]
      refine qw_val (v := .int .i64 ((i : Int))) 17 rfl (by kernel_rfl) (fun w' hS => exec_move _ rfl (.int .i64 ((i : Int))) rfl) ?_
      simp only [Act.put, s1_, s2_, s3_]
      refine qw_val (v := .pointer (some ⟨ba, oa + i * 108, none⟩)) 18 rfl (by kernel_rfl) (fun w' hS => exec_indexG _ _ _ rfl _ n ca ba oa 108 i rfl rfl rfl (by omega) (by kernel_rfl) _ (by omega)) ?_
      simp only [Act.put, s1_, s2_, s3_]
      refine qw_val (v := .pointer (some ⟨ba, oa + i * 108, none⟩)) 19 rfl (by kernel_rfl) (fun w' hS => exec_fieldG _ _ 0 0 rfl ba (oa + i * 108) rfl (by kernel_rfl) _ (by first | rfl | omega)) ?_
      simp only [Act.put, s1_, s2_, s3_]
      refine qw_val (v := .string (strOfNums x.name)) 20 rfl (by kernel_rfl) (fun w' hS => exec_load_one _ _ rfl ba (oa + i * 108) rfl _ Tryd.underlying9 rfl _ ((hS.cell (p := ⟨ba, oa + i * 108, none⟩) hba).trans HXN.out)) ?_
      simp only [Act.put, s1_, s2_, s3_]
      refine qw_val (v := .slice (some ⟨bb, ob, none⟩) n cb) 21 rfl (by kernel_rfl) (fun w' hS => exec_move _ rfl (.slice (some ⟨bb, ob, none⟩) n cb) rfl) ?_
      simp only [Act.put, s1_, s2_, s3_]
      refine qw_val (v := .int .i64 ((i : Int))) 22 rfl (by kernel_rfl) (fun w' hS => exec_move _ rfl (.int .i64 ((i : Int))) rfl) ?_
      simp only [Act.put, s1_, s2_, s3_]
      refine qw_val (v := .pointer (some ⟨bb, ob + i * 108, none⟩)) 23 rfl (by kernel_rfl) (fun w' hS => exec_indexG _ _ _ rfl _ n cb bb ob 108 i rfl rfl rfl (by omega) (by kernel_rfl) _ (by omega)) ?_
      simp only [Act.put, s1_, s2_, s3_]
      refine qw_val (v := .pointer (some ⟨bb, ob + i * 108, none⟩)) 24 rfl (by kernel_rfl) (fun w' hS => exec_fieldG _ _ 0 0 rfl bb (ob + i * 108) rfl (by kernel_rfl) _ (by first | rfl | omega)) ?_
      simp only [Act.put, s1_, s2_, s3_]
      refine qw_val (v := .string (strOfNums y.name)) 25 rfl (by kernel_rfl) (fun w' hS => exec_load_one _ _ rfl bb (ob + i * 108) rfl _ Tryd.underlying9 rfl _ ((hS.cell (p := ⟨bb, ob + i * 108, none⟩) hbb).trans HYN.out)) ?_
      simp only [Act.put, s1_, s2_, s3_]
      refine qw_val (v := .bool false) 26 rfl (by kernel_rfl) (fun w' hS => exec_neq_name _ _ _ rfl x.name y.name rfl rfl HXB.out HYB.out false HNN.out) ?_
      simp only [Act.put, s1_, s2_, s3_]
      refine qw_val (v := .bool false) 27 rfl (by kernel_rfl) (fun w' hS => exec_move _ rfl (.bool false) rfl) ?_
      simp only [Act.put, s1_, s2_, s3_]
      refine qw_val (v := .slice (some ⟨ba, oa, none⟩) n ca) 28 rfl (by kernel_rfl) (fun w' hS => exec_move _ rfl (.slice (some ⟨ba, oa, none⟩) n ca) rfl) ?_
      simp only [Act.put, s1_, s2_, s3_]
      refine qw_val (v := .int .i64 ((i : Int))) 29 rfl (by kernel_rfl) (fun w' hS => exec_move _ rfl (.int .i64 ((i : Int))) rfl) ?_
      simp only [Act.put, s1_, s2_, s3_]
      refine qw_val (v := .pointer (some ⟨ba, oa + i * 108, none⟩)) 30 rfl (by kernel_rfl) (fun w' hS => exec_indexG _ _ _ rfl _ n ca ba oa 108 i rfl rfl rfl (by omega) (by kernel_rfl) _ (by omega)) ?_
      simp only [Act.put, s1_, s2_, s3_]
      refine qw_val (v := .pointer (some ⟨ba, oa + i * 108 + 1, none⟩)) 31 rfl (by kernel_rfl) (fun w' hS => exec_fieldG _ _ 1 1 rfl ba (oa + i * 108) rfl (by kernel_rfl) _ (by first | rfl | omega)) ?_
      simp only [Act.put, s1_, s2_, s3_]
      refine qw_val (v := .agg (capCells x.read lr).toArray) 32 rfl (by kernel_rfl) (fun w' hS => exec_loadAll _ _ rfl ba (oa + i * 108 + 1) rfl _ _ (fun j u hu => (hS.cell (p := ⟨ba, oa + i * 108 + 1 + j, none⟩) hba).trans (HXR.out j u hu)) Tryd.underlying28 rfl HXSR.out) ?_
      simp only [Act.put, s1_, s2_, s3_]
      refine qw_val (v := .slice (some ⟨bb, ob, none⟩) n cb) 33 rfl (by kernel_rfl) (fun w' hS => exec_move _ rfl (.slice (some ⟨bb, ob, none⟩) n cb) rfl) ?_
      simp only [Act.put, s1_, s2_, s3_]
      refine qw_val (v := .int .i64 ((i : Int))) 34 rfl (by kernel_rfl) (fun w' hS => exec_move _ rfl (.int .i64 ((i : Int))) rfl) ?_
      simp only [Act.put, s1_, s2_, s3_]
      refine qw_val (v := .pointer (some ⟨bb, ob + i * 108, none⟩)) 35 rfl (by kernel_rfl) (fun w' hS => exec_indexG _ _ _ rfl _ n cb bb ob 108 i rfl rfl rfl (by omega) (by kernel_rfl) _ (by omega)) ?_
      simp only [Act.put, s1_, s2_, s3_]
      refine qw_val (v := .pointer (some ⟨bb, ob + i * 108 + 1, none⟩)) 36 rfl (by kernel_rfl) (fun w' hS => exec_fieldG _ _ 1 1 rfl bb (ob + i * 108) rfl (by kernel_rfl) _ (by first | rfl | omega)) ?_
      simp only [Act.put, s1_, s2_, s3_]
      refine qw_val (v := .agg (capCells y.read kr).toArray) 37 rfl (by kernel_rfl) (fun w' hS => exec_loadAll _ _ rfl bb (ob + i * 108 + 1) rfl _ _ (fun j u hu => (hS.cell (p := ⟨bb, ob + i * 108 + 1 + j, none⟩) hbb).trans (HYR.out j u hu)) Tryd.underlying28 rfl HYSR.out) ?_
      simp only [Act.put, s1_, s2_, s3_]
      refine qw_call (v := .bool false) 38 rfl (by kernel_rfl) 49 #[.agg (capCells x.read lr).toArray, .agg (capCells y.read kr).toArray] (fun w' => exec_call _ _ _ rfl _ (by simp [Act.eval]) (by go_simp)) (fun w' hS => HCR.out w' hS) ?_
      simp only [Act.put, s1_, s2_, s3_]
      refine qw_val (v := .bool true) 39 rfl (by kernel_rfl) (fun w' hS => exec_notG _ _ rfl false rfl _ rfl) ?_
      simp only [Act.put, s1_, s2_, s3_]
      refine qw_val (v := .bool true) 40 rfl (by kernel_rfl) (fun w' hS => exec_pickG _ _ _ rfl false rfl _ rfl) ?_
      simp only [Act.put, s1_, s2_, s3_]
      refine qw_val (v := .bool true) 41 rfl (by kernel_rfl) (fun w' hS => exec_move _ rfl (.bool true) rfl) ?_
      simp only [Act.put, s1_, s2_, s3_]
      refine qw_skip 42 rfl (by kernel_rfl) ?_
      simp only [Act.put, s1_, s2_, s3_]
      refine qw_skip 43 rfl (by kernel_rfl) ?_
      simp only [Act.put, s1_, s2_, s3_]
      refine qw_skip 44 rfl (by kernel_rfl) ?_
      simp only [Act.put, s1_, s2_, s3_]
      refine qw_skip 45 rfl (by kernel_rfl) ?_
      simp only [Act.put, s1_, s2_, s3_]
      refine qw_skip 46 rfl (by kernel_rfl) ?_
      simp only [Act.put, s1_, s2_, s3_]
      refine qw_skip 47 rfl (by kernel_rfl) ?_
      simp only [Act.put, s1_, s2_, s3_]
      refine qw_skip 48 rfl (by kernel_rfl) ?_
      simp only [Act.put, s1_, s2_, s3_]
      refine qw_skip 49 rfl (by kernel_rfl) ?_
      simp only [Act.put, s1_, s2_, s3_]
      refine qw_skip 50 rfl (by kernel_rfl) ?_
      simp only [Act.put, s1_, s2_, s3_]
      refine qw_skip 51 rfl (by kernel_rfl) ?_
      simp only [Act.put, s1_, s2_, s3_]
      refine qw_skip 52 rfl (by kernel_rfl) ?_
      simp only [Act.put, s1_, s2_, s3_]
      refine qw_skip 53 rfl (by kernel_rfl) ?_
      simp only [Act.put, s1_, s2_, s3_]
      refine qw_val (v := .bool true) 54 rfl (by kernel_rfl) (fun w' hS => exec_pickG _ _ _ rfl true rfl _ rfl) ?_
      simp only [Act.put, s1_, s2_, s3_]
      refine qw_val (v := .bool true) 55 rfl (by kernel_rfl) (fun w' hS => exec_move _ rfl (.bool true) rfl) ?_
      simp only [Act.put, s1_, s2_, s3_]
      refine qw_skip 56 rfl (by kernel_rfl) ?_
      simp only [Act.put, s1_, s2_, s3_]
      refine qw_skip 57 rfl (by kernel_rfl) ?_
      simp only [Act.put, s1_, s2_, s3_]
      refine qw_skip 58 rfl (by kernel_rfl) ?_
      simp only [Act.put, s1_, s2_, s3_]
      refine qw_skip 59 rfl (by kernel_rfl) ?_
      simp only [Act.put, s1_, s2_, s3_]
      refine qw_skip 60 rfl (by kernel_rfl) ?_
      simp only [Act.put, s1_, s2_, s3_]
      refine qw_skip 61 rfl (by kernel_rfl) ?_
      simp only [Act.put, s1_, s2_, s3_]
      refine qw_skip 62 rfl (by kernel_rfl) ?_
      simp only [Act.put, s1_, s2_, s3_]
      refine qw_skip 63 rfl (by kernel_rfl) ?_
      simp only [Act.put, s1_, s2_, s3_]
      refine qw_skip 64 rfl (by kernel_rfl) ?_
      simp only [Act.put, s1_, s2_, s3_]
      refine qw_skip 65 rfl (by kernel_rfl) ?_
      simp only [Act.put, s1_, s2_, s3_]
      refine qw_skip 66 rfl (by kernel_rfl) ?_
      simp only [Act.put, s1_, s2_, s3_]
      refine qw_val (v := .bool true) 67 rfl (by kernel_rfl) (fun w' hS => exec_pickG _ _ _ rfl true rfl _ rfl) ?_
      simp only [Act.put, s1_, s2_, s3_]
      refine qw_nil ?_
      intro w2 hS
      have HB2 := hide hS
      clear hS
      go_wp2_with fail
      go_ret
      exact ⟨by rw [HNO.out]; rfl, HB2.out⟩
    have HCR := hide (HCRq.out true hqr)
    rcases hqw : sameF x.write y.write with _ | _
    · have HNO := hide (HDF.out (by rw [HEE.out, hqr, hqw]; rfl))
      have HCW := hide (HCWq.out false hqw)
      clear hqr hqw
      refine wp_region_qw (Below B w) (by kernel_rfl) (by kernel_rfl) HB.out.drew ?_
      refine qw_val (v := .slice (some ⟨ba, oa, none⟩) n ca) 16 rfl (by kernel_rfl) (fun w' hS => exec_move _ rfl (.slice (some ⟨ba, oa, none⟩) n ca) rfl) ?_
      simp only [Act.put, s1_, s2_, s3_]
      refine qw_val (v := .int .i64 ((i : Int))) 17 rfl (by kernel_rfl) (fun w' hS => exec_move _ rfl (.int .i64 ((i : Int))) rfl) ?_
      simp only [Act.put, s1_, s2_, s3_]
      refine qw_val (v := .pointer (some ⟨ba, oa + i * 108, none⟩)) 18 rfl (by kernel_rfl) (fun w' hS => exec_indexG _ _ _ rfl _ n ca ba oa 108 i rfl rfl rfl (by omega) (by kernel_rfl) _ (by omega)) ?_
      simp only [Act.put, s1_, s2_, s3_]
      refine qw_val (v := .pointer (some ⟨ba, oa + i * 108, none⟩)) 19 rfl (by kernel_rfl) (fun w' hS => exec_fieldG _ _ 0 0 rfl ba (oa + i * 108) rfl (by kernel_rfl) _ (by first | rfl | omega)) ?_
      simp only [Act.put, s1_, s2_, s3_]
      refine qw_val (v := .string (strOfNums x.name)) 20 rfl (by kernel_rfl) (fun w' hS => exec_load_one _ _ rfl ba (oa + i * 108) rfl _ Tryd.underlying9 rfl _ ((hS.cell (p := ⟨ba, oa + i * 108, none⟩) hba).trans HXN.out)) ?_
      simp only [Act.put, s1_, s2_, s3_]
      refine qw_val (v := .slice (some ⟨bb, ob, none⟩) n cb) 21 rfl (by kernel_rfl) (fun w' hS => exec_move _ rfl (.slice (some ⟨bb, ob, none⟩) n cb) rfl) ?_
      simp only [Act.put, s1_, s2_, s3_]
      refine qw_val (v := .int .i64 ((i : Int))) 22 rfl (by kernel_rfl) (fun w' hS => exec_move _ rfl (.int .i64 ((i : Int))) rfl) ?_
      simp only [Act.put, s1_, s2_, s3_]
      refine qw_val (v := .pointer (some ⟨bb, ob + i * 108, none⟩)) 23 rfl (by kernel_rfl) (fun w' hS => exec_indexG _ _ _ rfl _ n cb bb ob 108 i rfl rfl rfl (by omega) (by kernel_rfl) _ (by omega)) ?_
      simp only [Act.put, s1_, s2_, s3_]
      refine qw_val (v := .pointer (some ⟨bb, ob + i * 108, none⟩)) 24 rfl (by kernel_rfl) (fun w' hS => exec_fieldG _ _ 0 0 rfl bb (ob + i * 108) rfl (by kernel_rfl) _ (by first | rfl | omega)) ?_
      simp only [Act.put, s1_, s2_, s3_]
      refine qw_val (v := .string (strOfNums y.name)) 25 rfl (by kernel_rfl) (fun w' hS => exec_load_one _ _ rfl bb (ob + i * 108) rfl _ Tryd.underlying9 rfl _ ((hS.cell (p := ⟨bb, ob + i * 108, none⟩) hbb).trans HYN.out)) ?_
      simp only [Act.put, s1_, s2_, s3_]
      refine qw_val (v := .bool false) 26 rfl (by kernel_rfl) (fun w' hS => exec_neq_name _ _ _ rfl x.name y.name rfl rfl HXB.out HYB.out false HNN.out) ?_
      simp only [Act.put, s1_, s2_, s3_]
      refine qw_val (v := .bool false) 27 rfl (by kernel_rfl) (fun w' hS => exec_move _ rfl (.bool false) rfl) ?_
      simp only [Act.put, s1_, s2_, s3_]
      refine qw_val (v := .slice (some ⟨ba, oa, none⟩) n ca) 28 rfl (by kernel_rfl) (fun w' hS => exec_move _ rfl (.slice (some ⟨ba, oa, none⟩) n ca) rfl) ?_
      simp only [Act.put, s1_, s2_, s3_]
      refine qw_val (v := .int .i64 ((i : Int))) 29 rfl (by kernel_rfl) (fun w' hS => exec_move _ rfl (.int .i64 ((i : Int))) rfl) ?_
      simp only [Act.put, s1_, s2_, s3_]
      refine qw_val (v := .pointer (some ⟨ba, oa + i * 108, none⟩)) 30 rfl (by kernel_rfl) (fun w' hS => exec_indexG _ _ _ rfl _ n ca ba oa 108 i rfl rfl rfl (by omega) (by kernel_rfl) _ (by omega)) ?_
      simp only [Act.put, s1_, s2_, s3_]
      refine qw_val (v := .pointer (some ⟨ba, oa + i * 108 + 1, none⟩)) 31 rfl (by kernel_rfl) (fun w' hS => exec_fieldG _ _ 1 1 rfl ba (oa + i * 108) rfl (by kernel_rfl) _ (by first | rfl | omega)) ?_
      simp only [Act.put, s1_, s2_, s3_]
      refine qw_val (v := .agg (capCells x.read lr).toArray) 32 rfl (by kernel_rfl) (fun w' hS => exec_loadAll _ _ rfl ba (oa + i * 108 + 1) rfl _ _ (fun j u hu => (hS.cell (p := ⟨ba, oa + i * 108 + 1 + j, none⟩) hba).trans (HXR.out j u hu)) Tryd.underlying28 rfl HXSR.out) ?_
      simp only [Act.put, s1_, s2_, s3_]
      refine qw_val (v := .slice (some ⟨bb, ob, none⟩) n cb) 33 rfl (by kernel_rfl) (fun w' hS => exec_move _ rfl (.slice (some ⟨bb, ob, none⟩) n cb) rfl) ?_
      simp only [Act.put, s1_, s2_, s3_]
      refine qw_val (v := .int .i64 ((i : Int))) 34 rfl (by kernel_rfl) (fun w' hS => exec_move _ rfl (.int .i64 ((i : Int))) rfl) ?_
      simp only [Act.put, s1_, s2_, s3_]
      refine qw_val (v := .pointer (some ⟨bb, ob + i * 108, none⟩)) 35 rfl (by kernel_rfl) (fun w' hS => exec_indexG _ _ _ rfl _ n cb bb ob 108 i rfl rfl rfl (by omega) (by kernel_rfl) _ (by omega)) ?_
      simp only [Act.put, s1_, s2_, s3_]
      refine qw_val (v := .pointer (some ⟨bb, ob + i * 108 + 1, none⟩)) 36 rfl (by kernel_rfl) (fun w' hS => exec_fieldG _ _ 1 1 rfl bb (ob + i * 108) rfl (by kernel_rfl) _ (by first | rfl | omega)) ?_
      simp only [Act.put, s1_, s2_, s3_]
      refine qw_val (v := .agg (capCells y.read kr).toArray) 37 rfl (by kernel_rfl) (fun w' hS => exec_loadAll _ _ rfl bb (ob + i * 108 + 1) rfl _ _ (fun j u hu => (hS.cell (p := ⟨bb, ob + i * 108 + 1 + j, none⟩) hbb).trans (HYR.out j u hu)) Tryd.underlying28 rfl HYSR.out) ?_
      simp only [Act.put, s1_, s2_, s3_]
      refine qw_call (v := .bool true) 38 rfl (by kernel_rfl) 49 #[.agg (capCells x.read lr).toArray, .agg (capCells y.read kr).toArray] (fun w' => exec_call _ _ _ rfl _ (by simp [Act.eval]) (by go_simp)) (fun w' hS => HCR.out w' hS) ?_
      simp only [Act.put, s1_, s2_, s3_]
      refine qw_val (v := .bool false) 39 rfl (by kernel_rfl) (fun w' hS => exec_notG _ _ rfl true rfl _ rfl) ?_
      simp only [Act.put, s1_, s2_, s3_]
      refine qw_val (v := .bool false) 40 rfl (by kernel_rfl) (fun w' hS => exec_pickG _ _ _ rfl false rfl _ rfl) ?_
      simp only [Act.put, s1_, s2_, s3_]
      refine qw_val (v := .bool false) 41 rfl (by kernel_rfl) (fun w' hS => exec_move _ rfl (.bool false) rfl) ?_
      simp only [Act.put, s1_, s2_, s3_]
      refine qw_val (v := .slice (some ⟨ba, oa, none⟩) n ca) 42 rfl (by kernel_rfl) (fun w' hS => exec_move _ rfl (.slice (some ⟨ba, oa, none⟩) n ca) rfl) ?_
      simp only [Act.put, s1_, s2_, s3_]
      refine qw_val (v := .int .i64 ((i : Int))) 43 rfl (by kernel_rfl) (fun w' hS => exec_move _ rfl (.int .i64 ((i : Int))) rfl) ?_
      simp only [Act.put, s1_, s2_, s3_]
      refine qw_val (v := .pointer (some ⟨ba, oa + i * 108, none⟩)) 44 rfl (by kernel_rfl) (fun w' hS => exec_indexG _ _ _ rfl _ n ca ba oa 108 i rfl rfl rfl (by omega) (by kernel_rfl) _ (by omega)) ?_
      simp only [Act.put, s1_, s2_, s3_]
      refine qw_val (v := .pointer (some ⟨ba, oa + i * 108 + 54, none⟩)) 45 rfl (by kernel_rfl) (fun w' hS => exec_fieldG _ _ 2 54 rfl ba (oa + i * 108) rfl (by kernel_rfl) _ (by first | rfl | omega)) ?_
      simp only [Act.put, s1_, s2_, s3_]
      refine qw_val (v := .agg (capCells x.write lw).toArray) 46 rfl (by kernel_rfl) (fun w' hS => exec_loadAll _ _ rfl ba (oa + i * 108 + 54) rfl _ _ (fun j u hu => (hS.cell (p := ⟨ba, oa + i * 108 + 54 + j, none⟩) hba).trans (HXW.out j u hu)) Tryd.underlying28 rfl HXSW.out) ?_
      simp only [Act.put, s1_, s2_, s3_]
      refine qw_val (v := .slice (some ⟨bb, ob, none⟩) n cb) 47 rfl (by kernel_rfl) (fun w' hS => exec_move _ rfl (.slice (some ⟨bb, ob, none⟩) n cb) rfl) ?_
      simp only [Act.put, s1_, s2_, s3_]
      refine qw_val (v := .int .i64 ((i : Int))) 48 rfl (by kernel_rfl) (fun w' hS => exec_move _ rfl (.int .i64 ((i : Int))) rfl) ?_
      simp only [Act.put, s1_, s2_, s3_]
      refine qw_val (v := .pointer (some ⟨bb, ob + i * 108, none⟩)) 49 rfl (by kernel_rfl) (fun w' hS => exec_indexG _ _ _ rfl _ n cb bb ob 108 i rfl rfl rfl (by omega) (by kernel_rfl) _ (by omega)) ?_
      simp only [Act.put, s1_, s2_, s3_]
      refine qw_val (v := .pointer (some ⟨bb, ob + i * 108 + 54, none⟩)) 50 rfl (by kernel_rfl) (fun w' hS => exec_fieldG _ _ 2 54 rfl bb (ob + i * 108) rfl (by kernel_rfl) _ (by first | rfl | omega)) ?_
      simp only [Act.put, s1_, s2_, s3_]
      refine qw_val (v := .agg (capCells y.write kw).toArray) 51 rfl (by kernel_rfl) (fun w' hS => exec_loadAll _ _ rfl bb (ob + i * 108 + 54) rfl _ _ (fun j u hu => (hS.cell (p := ⟨bb, ob + i * 108 + 54 + j, none⟩) hbb).trans (HYW.out j u hu)) Tryd.underlying28 rfl HYSW.out) ?_
      simp only [Act.put, s1_, s2_, s3_]
      refine qw_call (v := .bool false) 52 rfl (by kernel_rfl) 49 #[.agg (capCells x.write lw).toArray, .agg (capCells y.write kw).toArray] (fun w' => exec_call _ _ _ rfl _ (by simp [Act.eval]) (by go_simp)) (fun w' hS => HCW.out w' hS) ?_
      simp only [Act.put, s1_, s2_, s3_]
      refine qw_val (v := .bool true) 53 rfl (by kernel_rfl) (fun w' hS => exec_notG _ _ rfl false rfl _ rfl) ?_
      simp only [Act.put, s1_, s2_, s3_]
      refine qw_val (v := .bool true) 54 rfl (by kernel_rfl) (fun w' hS => exec_pickG _ _ _ rfl false rfl _ rfl) ?_
      simp only [Act.put, s1_, s2_, s3_]
      refine qw_val (v := .bool true) 55 rfl (by kernel_rfl) (fun w' hS => exec_move _ rfl (.bool true) rfl) ?_
      simp only [Act.put, s1_, s2_, s3_]
      refine qw_skip 56 rfl (by kernel_rfl) ?_
      simp only [Act.put, s1_, s2_, s3_]
      refine qw_skip 57 rfl (by kernel_rfl) ?_
      simp only [Act.put, s1_, s2_, s3_]
      refine qw_skip 58 rfl (by kernel_rfl) ?_
      simp only [Act.put, s1_, s2_, s3_]
      refine qw_skip 59 rfl (by kernel_rfl) ?_
      simp only [Act.put, s1_, s2_, s3_]
      refine qw_skip 60 rfl (by kernel_rfl) ?_
      simp only [Act.put, s1_, s2_, s3_]
      refine qw_skip 61 rfl (by kernel_rfl) ?_
      simp only [Act.put, s1_, s2_, s3_]
      refine qw_skip 62 rfl (by kernel_rfl) ?_
      simp only [Act.put, s1_, s2_, s3_]
      refine qw_skip 63 rfl (by kernel_rfl) ?_
      simp only [Act.put, s1_, s2_, s3_]
      refine qw_skip 64 rfl (by kernel_rfl) ?_
      simp only [Act.put, s1_, s2_, s3_]
      refine qw_skip 65 rfl (by kernel_rfl) ?_
      simp only [Act.put, s1_, s2_, s3_]
      refine qw_skip 66 rfl (by kernel_rfl) ?_
      simp only [Act.put, s1_, s2_, s3_]
      refine qw_val (v := .bool true) 67 rfl (by kernel_rfl) (fun w' hS => exec_pickG _ _ _ rfl true rfl _ rfl) ?_
      simp only [Act.put, s1_, s2_, s3_]
      refine qw_nil ?_
      intro w2 hS
      have HB2 := hide hS
      clear hS
      go_wp2_with fail
      go_ret
      exact ⟨by rw [HNO.out]; rfl, HB2.out⟩
    have HCW := hide (HCWq.out true hqw)
    obtain ⟨nh, HNH⟩ : ∃ q, Hid ((hx != hy) = q) := ⟨_, hide rfl⟩
    rcases nh with _ | _
    case true =>
     have HNO := hide (HDF.out (by
      have h := HNH.out
      rw [HEE.out, hqr, hqw]
      cases hx <;> cases hy <;> first | rfl | cases h))
     clear hqr hqw
     refine wp_region_qw (Below B w) (by kernel_rfl) (by kernel_rfl) HB.out.drew ?_
     refine qw_val (v := .slice (some ⟨ba, oa, none⟩) n ca) 16 rfl (by kernel_rfl) (fun w' hS => exec_move _ rfl (.slice (some ⟨ba, oa, none⟩) n ca) rfl) ?_
     simp only [Act.put, s1_, s2_, s3_]
     refine qw_val (v := .int .i64 ((i : Int))) 17 rfl (by kernel_rfl) (fun w' hS => exec_move _ rfl (.int .i64 ((i : Int))) rfl) ?_
     simp only [Act.put, s1_, s2_, s3_]
     refine qw_val (v := .pointer (some ⟨ba, oa + i * 108, none⟩)) 18 rfl (by kernel_rfl) (fun w' hS => exec_indexG _ _ _ rfl _ n ca ba oa 108 i rfl rfl rfl (by omega) (by kernel_rfl) _ (by omega)) ?_
     simp only [Act.put, s1_, s2_, s3_]
     refine qw_val (v := .pointer (some ⟨ba, oa + i * 108, none⟩)) 19 rfl (by kernel_rfl) (fun w' hS => exec_fieldG _ _ 0 0 rfl ba (oa + i * 108) rfl (by kernel_rfl) _ (by first | rfl | omega)) ?_
     simp only [Act.put, s1_, s2_, s3_]
     refine qw_val (v := .string (strOfNums x.name)) 20 rfl (by kernel_rfl) (fun w' hS => exec_load_one _ _ rfl ba (oa + i * 108) rfl _ Tryd.underlying9 rfl _ ((hS.cell (p := ⟨ba, oa + i * 108, none⟩) hba).trans HXN.out)) ?_
     simp only [Act.put, s1_, s2_, s3_]
     refine qw_val (v := .slice (some ⟨bb, ob, none⟩) n cb) 21 rfl (by kernel_rfl) (fun w' hS => exec_move _ rfl (.slice (some ⟨bb, ob, none⟩) n cb) rfl) ?_
     simp only [Act.put, s1_, s2_, s3_]
     refine qw_val (v := .int .i64 ((i : Int))) 22 rfl (by kernel_rfl) (fun w' hS => exec_move _ rfl (.int .i64 ((i : Int))) rfl) ?_
     simp only [Act.put, s1_, s2_, s3_]
     refine qw_val (v := .pointer (some ⟨bb, ob + i * 108, none⟩)) 23 rfl (by kernel_rfl) (fun w' hS => exec_indexG _ _ _ rfl _ n cb bb ob 108 i rfl rfl rfl (by omega) (by kernel_rfl) _ (by omega)) ?_
     simp only [Act.put, s1_, s2_, s3_]
     refine qw_val (v := .pointer (some ⟨bb, ob + i * 108, none⟩)) 24 rfl (by kernel_rfl) (fun w' hS => exec_fieldG _ _ 0 0 rfl bb (ob + i * 108) rfl (by kernel_rfl) _ (by first | rfl | omega)) ?_
     simp only [Act.put, s1_, s2_, s3_]
     refine qw_val (v := .string (strOfNums y.name)) 25 rfl (by kernel_rfl) (fun w' hS => exec_load_one _ _ rfl bb (ob + i * 108) rfl _ Tryd.underlying9 rfl _ ((hS.cell (p := ⟨bb, ob + i * 108, none⟩) hbb).trans HYN.out)) ?_
     simp only [Act.put, s1_, s2_, s3_]
     refine qw_val (v := .bool false) 26 rfl (by kernel_rfl) (fun w' hS => exec_neq_name _ _ _ rfl x.name y.name rfl rfl HXB.out HYB.out false HNN.out) ?_
     simp only [Act.put, s1_, s2_, s3_]
     refine qw_val (v := .bool false) 27 rfl (by kernel_rfl) (fun w' hS => exec_move _ rfl (.bool false) rfl) ?_
     simp only [Act.put, s1_, s2_, s3_]
     refine qw_val (v := .slice (some ⟨ba, oa, none⟩) n ca) 28 rfl (by kernel_rfl) (fun w' hS => exec_move _ rfl (.slice (some ⟨ba, oa, none⟩) n ca) rfl) ?_
     simp only [Act.put, s1_, s2_, s3_]
     refine qw_val (v := .int .i64 ((i : Int))) 29 rfl (by kernel_rfl) (fun w' hS => exec_move _ rfl (.int .i64 ((i : Int))) rfl) ?_
     simp only [Act.put, s1_, s2_, s3_]
     refine qw_val (v := .pointer (some ⟨ba, oa + i * 108, none⟩)) 30 rfl (by kernel_rfl) (fun w' hS => exec_indexG _ _ _ rfl _ n ca ba oa 108 i rfl rfl rfl (by omega) (by kernel_rfl) _ (by omega)) ?_
     simp only [Act.put, s1_, s2_, s3_]
     refine qw_val (v := .pointer (some ⟨ba, oa + i * 108 + 1, none⟩)) 31 rfl (by kernel_rfl) (fun w' hS => exec_fieldG _ _ 1 1 rfl ba (oa + i * 108) rfl (by kernel_rfl) _ (by first | rfl | omega)) ?_
     simp only [Act.put, s1_, s2_, s3_]
     refine qw_val (v := .agg (capCells x.read lr).toArray) 32 rfl (by kernel_rfl) (fun w' hS => exec_loadAll _ _ rfl ba (oa + i * 108 + 1) rfl _ _ (fun j u hu => (hS.cell (p := ⟨ba, oa + i * 108 + 1 + j, none⟩) hba).trans (HXR.out j u hu)) Tryd.underlying28 rfl HXSR.out) ?_
     simp only [Act.put, s1_, s2_, s3_]
     refine qw_val (v := .slice (some ⟨bb, ob, none⟩) n cb) 33 rfl (by kernel_rfl) (fun w' hS => exec_move _ rfl (.slice (some ⟨bb, ob, none⟩) n cb) rfl) ?_
     simp only [Act.put, s1_, s2_, s3_]
     refine qw_val (v := .int .i64 ((i : Int))) 34 rfl (by kernel_rfl) (fun w' hS => exec_move _ rfl (.int .i64 ((i : Int))) rfl) ?_
     simp only [Act.put, s1_, s2_, s3_]
     refine qw_val (v := .pointer (some ⟨bb, ob + i * 108, none⟩)) 35 rfl (by kernel_rfl) (fun w' hS => exec_indexG _ _ _ rfl _ n cb bb ob 108 i rfl rfl rfl (by omega) (by kernel_rfl) _ (by omega)) ?_
     simp only [Act.put, s1_, s2_, s3_]
     refine qw_val (v := .pointer (some ⟨bb, ob + i * 108 + 1, none⟩)) 36 rfl (by kernel_rfl) (fun w' hS => exec_fieldG _ _ 1 1 rfl bb (ob + i * 108) rfl (by kernel_rfl) _ (by first | rfl | omega)) ?_
     simp only [Act.put, s1_, s2_, s3_]
     refine qw_val (v := .agg (capCells y.read kr).toArray) 37 rfl (by kernel_rfl) (fun w' hS => exec_loadAll _ _ rfl bb (ob + i * 108 + 1) rfl _ _ (fun j u hu => (hS.cell (p := ⟨bb, ob + i * 108 + 1 + j, none⟩) hbb).trans (HYR.out j u hu)) Tryd.underlying28 rfl HYSR.out) ?_
     simp only [Act.put, s1_, s2_, s3_]
     refine qw_call (v := .bool true) 38 rfl (by kernel_rfl) 49 #[.agg (capCells x.read lr).toArray, .agg (capCells y.read kr).toArray] (fun w' => exec_call _ _ _ rfl _ (by simp [Act.eval]) (by go_simp)) (fun w' hS => HCR.out w' hS) ?_
     simp only [Act.put, s1_, s2_, s3_]
     refine qw_val (v := .bool false) 39 rfl (by kernel_rfl) (fun w' hS => exec_notG _ _ rfl true rfl _ rfl) ?_
     simp only [Act.put, s1_, s2_, s3_]
     refine qw_val (v := .bool false) 40 rfl (by kernel_rfl) (fun w' hS => exec_pickG _ _ _ rfl false rfl _ rfl) ?_
     simp only [Act.put, s1_, s2_, s3_]
     refine qw_val (v := .bool false) 41 rfl (by kernel_rfl) (fun w' hS => exec_move _ rfl (.bool false) rfl) ?_
     simp only [Act.put, s1_, s2_, s3_]
     refine qw_val (v := .slice (some ⟨ba, oa, none⟩) n ca) 42 rfl (by kernel_rfl) (fun w' hS => exec_move _ rfl (.slice (some ⟨ba, oa, none⟩) n ca) rfl) ?_
     simp only [Act.put, s1_, s2_, s3_]
     refine qw_val (v := .int .i64 ((i : Int))) 43 rfl (by kernel_rfl) (fun w' hS => exec_move _ rfl (.int .i64 ((i : Int))) rfl) ?_
     simp only [Act.put, s1_, s2_, s3_]
     refine qw_val (v := .pointer (some ⟨ba, oa + i * 108, none⟩)) 44 rfl (by kernel_rfl) (fun w' hS => exec_indexG _ _ _ rfl _ n ca ba oa 108 i rfl rfl rfl (by omega) (by kernel_rfl) _ (by omega)) ?_
     simp only [Act.put, s1_, s2_, s3_]
     refine qw_val (v := .pointer (some ⟨ba, oa + i * 108 + 54, none⟩)) 45 rfl (by kernel_rfl) (fun w' hS => exec_fieldG _ _ 2 54 rfl ba (oa + i * 108) rfl (by kernel_rfl) _ (by first | rfl | omega)) ?_
     simp only [Act.put, s1_, s2_, s3_]
     refine qw_val (v := .agg (capCells x.write lw).toArray) 46 rfl (by kernel_rfl) (fun w' hS => exec_loadAll _ _ rfl ba (oa + i * 108 + 54) rfl _ _ (fun j u hu => (hS.cell (p := ⟨ba, oa + i * 108 + 54 + j, none⟩) hba).trans (HXW.out j u hu)) Tryd.underlying28 rfl HXSW.out) ?_
     simp only [Act.put, s1_, s2_, s3_]
     refine qw_val (v := .slice (some ⟨bb, ob, none⟩) n cb) 47 rfl (by kernel_rfl) (fun w' hS => exec_move _ rfl (.slice (some ⟨bb, ob, none⟩) n cb) rfl) ?_
     simp only [Act.put, s1_, s2_, s3_]
     refine qw_val (v := .int .i64 ((i : Int))) 48 rfl (by kernel_rfl) (fun w' hS => exec_move _ rfl (.int .i64 ((i : Int))) rfl) ?_
     simp only [Act.put, s1_, s2_, s3_]
     refine qw_val (v := .pointer (some ⟨bb, ob + i * 108, none⟩)) 49 rfl (by kernel_rfl) (fun w' hS => exec_indexG _ _ _ rfl _ n cb bb ob 108 i rfl rfl rfl (by omega) (by kernel_rfl) _ (by omega)) ?_
     simp only [Act.put, s1_, s2_, s3_]
     refine qw_val (v := .pointer (some ⟨bb, ob + i * 108 + 54, none⟩)) 50 rfl (by kernel_rfl) (fun w' hS => exec_fieldG _ _ 2 54 rfl bb (ob + i * 108) rfl (by kernel_rfl) _ (by first | rfl | omega)) ?_
     simp only [Act.put, s1_, s2_, s3_]
     refine qw_val (v := .agg (capCells y.write kw).toArray) 51 rfl (by kernel_rfl) (fun w' hS => exec_loadAll _ _ rfl bb (ob + i * 108 + 54) rfl _ _ (fun j u hu => (hS.cell (p := ⟨bb, ob + i * 108 + 54 + j, none⟩) hbb).trans (HYW.out j u hu)) Tryd.underlying28 rfl HYSW.out) ?_
     simp only [Act.put, s1_, s2_, s3_]
     refine qw_call (v := .bool true) 52 rfl (by kernel_rfl) 49 #[.agg (capCells x.write lw).toArray, .agg (capCells y.write kw).toArray] (fun w' => exec_call _ _ _ rfl _ (by simp [Act.eval]) (by go_simp)) (fun w' hS => HCW.out w' hS) ?_
     simp only [Act.put, s1_, s2_, s3_]
     refine qw_val (v := .bool false) 53 rfl (by kernel_rfl) (fun w' hS => exec_notG _ _ rfl true rfl _ rfl) ?_
     simp only [Act.put, s1_, s2_, s3_]
     refine qw_val (v := .bool false) 54 rfl (by kernel_rfl) (fun w' hS => exec_pickG _ _ _ rfl false rfl _ rfl) ?_
     simp only [Act.put, s1_, s2_, s3_]
     refine qw_val (v := .bool false) 55 rfl (by kernel_rfl) (fun w' hS => exec_move _ rfl (.bool false) rfl) ?_
     simp only [Act.put, s1_, s2_, s3_]
     refine qw_val (v := .slice (some ⟨ba, oa, none⟩) n ca) 56 rfl (by kernel_rfl) (fun w' hS => exec_move _ rfl (.slice (some ⟨ba, oa, none⟩) n ca) rfl) ?_
     simp only [Act.put, s1_, s2_, s3_]
     refine qw_val (v := .int .i64 ((i : Int))) 57 rfl (by kernel_rfl) (fun w' hS => exec_move _ rfl (.int .i64 ((i : Int))) rfl) ?_
     simp only [Act.put, s1_, s2_, s3_]
     refine qw_val (v := .pointer (some ⟨ba, oa + i * 108, none⟩)) 58 rfl (by kernel_rfl) (fun w' hS => exec_indexG _ _ _ rfl _ n ca ba oa 108 i rfl rfl rfl (by omega) (by kernel_rfl) _ (by omega)) ?_
     simp only [Act.put, s1_, s2_, s3_]
     refine qw_val (v := .pointer (some ⟨ba, oa + i * 108 + 107, none⟩)) 59 rfl (by kernel_rfl) (fun w' hS => exec_fieldG _ _ 3 107 rfl ba (oa + i * 108) rfl (by kernel_rfl) _ (by first | rfl | omega)) ?_
     simp only [Act.put, s1_, s2_, s3_]
     refine qw_val (v := .bool hx) 60 rfl (by kernel_rfl) (fun w' hS => exec_load_one _ _ rfl ba (oa + i * 108 + 107) rfl _ Tryd.underlying4 rfl _ ((hS.cell (p := ⟨ba, oa + i * 108 + 107, none⟩) hba).trans HXH.out)) ?_
     simp only [Act.put, s1_, s2_, s3_]
     refine qw_val (v := .slice (some ⟨bb, ob, none⟩) n cb) 61 rfl (by kernel_rfl) (fun w' hS => exec_move _ rfl (.slice (some ⟨bb, ob, none⟩) n cb) rfl) ?_
     simp only [Act.put, s1_, s2_, s3_]
     refine qw_val (v := .int .i64 ((i : Int))) 62 rfl (by kernel_rfl) (fun w' hS => exec_move _ rfl (.int .i64 ((i : Int))) rfl) ?_
     simp only [Act.put, s1_, s2_, s3_]
     refine qw_val (v := .pointer (some ⟨bb, ob + i * 108, none⟩)) 63 rfl (by kernel_rfl) (fun w' hS => exec_indexG _ _ _ rfl _ n cb bb ob 108 i rfl rfl rfl (by omega) (by kernel_rfl) _ (by omega)) ?_
     simp only [Act.put, s1_, s2_, s3_]
     refine qw_val (v := .pointer (some ⟨bb, ob + i * 108 + 107, none⟩)) 64 rfl (by kernel_rfl) (fun w' hS => exec_fieldG _ _ 3 107 rfl bb (ob + i * 108) rfl (by kernel_rfl) _ (by first | rfl | omega)) ?_
     simp only [Act.put, s1_, s2_, s3_]
     refine qw_val (v := .bool hy) 65 rfl (by kernel_rfl) (fun w' hS => exec_load_one _ _ rfl bb (ob + i * 108 + 107) rfl _ Tryd.underlying4 rfl _ ((hS.cell (p := ⟨bb, ob + i * 108 + 107, none⟩) hbb).trans HYH.out)) ?_
     simp only [Act.put, s1_, s2_, s3_]
     refine qw_val (v := .bool true) 66 rfl (by kernel_rfl) (fun w' hS => exec_neqB2 _ _ _ rfl hx hy rfl rfl true HNH.out) ?_
     simp only [Act.put, s1_, s2_, s3_]
     refine qw_val (v := .bool true) 67 rfl (by kernel_rfl) (fun w' hS => exec_pickG _ _ _ rfl false rfl _ rfl) ?_
     simp only [Act.put, s1_, s2_, s3_]
     refine qw_nil ?_
     intro w2 hS
     have HB2 := hide hS
     clear hS
     go_wp2_with fail
     go_ret
     exact ⟨by rw [HNO.out]; rfl, HB2.out⟩
    have HTK := hide (show la.take (i + 1) = lb.take (i + 1) from by
     have h := HNH.out
     have he : entEq x y = true := by
      rw [HEE.out, hqr, hqw]
      cases hx <;> cases hy <;> first | rfl | cases h
     rw [HSN.out, HSM2.out, HT.out, (entEq_iff x y).1 he])
    clear hqr hqw
    refine wp_region_qw (Below B w) (by kernel_rfl) (by kernel_rfl) HB.out.drew ?_
    refine qw_val (v := .slice (some ⟨ba, oa, none⟩) n ca) 16 rfl (by kernel_rfl) (fun w' hS => exec_move _ rfl (.slice (some ⟨ba, oa, none⟩) n ca) rfl) ?_
    simp only [Act.put, s1_, s2_, s3_]
    refine qw_val (v := .int .i64 ((i : Int))) 17 rfl (by kernel_rfl) (fun w' hS => exec_move _ rfl (.int .i64 ((i : Int))) rfl) ?_
    simp only [Act.put, s1_, s2_, s3_]
    refine qw_val (v := .pointer (some ⟨ba, oa + i * 108, none⟩)) 18 rfl (by kernel_rfl) (fun w' hS => exec_indexG _ _ _ rfl _ n ca ba oa 108 i rfl rfl rfl (by omega) (by kernel_rfl) _ (by omega)) ?_
    simp only [Act.put, s1_, s2_, s3_]
    refine qw_val (v := .pointer (some ⟨ba, oa + i * 108, none⟩)) 19 rfl (by kernel_rfl) (fun w' hS => exec_fieldG _ _ 0 0 rfl ba (oa + i * 108) rfl (by kernel_rfl) _ (by first | rfl | omega)) ?_
    simp only [Act.put, s1_, s2_, s3_]
    refine qw_val (v := .string (strOfNums x.name)) 20 rfl (by kernel_rfl) (fun w' hS => exec_load_one _ _ rfl ba (oa + i * 108) rfl _ Tryd.underlying9 rfl _ ((hS.cell (p := ⟨ba, oa + i * 108, none⟩) hba).trans HXN.out)) ?_
    simp only [Act.put, s1_, s2_, s3_]
    refine qw_val (v := .slice (some ⟨bb, ob, none⟩) n cb) 21 rfl (by kernel_rfl) (fun w' hS => exec_move _ rfl (.slice (some ⟨bb, ob, none⟩) n cb) rfl) ?_
    simp only [Act.put, s1_, s2_, s3_]
    refine qw_val (v := .int .i64 ((i : Int))) 22 rfl (by kernel_rfl) (fun w' hS => exec_move _ rfl (.int .i64 ((i : Int))) rfl) ?_
    simp only [Act.put, s1_, s2_, s3_]
    refine qw_val (v := .pointer (some ⟨bb, ob + i * 108, none⟩)) 23 rfl (by kernel_rfl) (fun w' hS => exec_indexG _ _ _ rfl _ n cb bb ob 108 i rfl rfl rfl (by omega) (by kernel_rfl) _ (by omega)) ?_
    simp only [Act.put, s1_, s2_, s3_]
    refine qw_val (v := .pointer (some ⟨bb, ob + i * 108, none⟩)) 24 rfl (by kernel_rfl) (fun w' hS => exec_fieldG _ _ 0 0 rfl bb (ob + i * 108) rfl (by kernel_rfl) _ (by first | rfl | omega)) ?_
    simp only [Act.put, s1_, s2_, s3_]
    refine qw_val (v := .string (strOfNums y.name)) 25 rfl (by kernel_rfl) (fun w' hS => exec_load_one _ _ rfl bb (ob + i * 108) rfl _ Tryd.underlying9 rfl _ ((hS.cell (p := ⟨bb, ob + i * 108, none⟩) hbb).trans HYN.out)) ?_
    simp only [Act.put, s1_, s2_, s3_]
    refine qw_val (v := .bool false) 26 rfl (by kernel_rfl) (fun w' hS => exec_neq_name _ _ _ rfl x.name y.name rfl rfl HXB.out HYB.out false HNN.out) ?_
    simp only [Act.put, s1_, s2_, s3_]
    refine qw_val (v := .bool false) 27 rfl (by kernel_rfl) (fun w' hS => exec_move _ rfl (.bool false) rfl) ?_
    simp only [Act.put, s1_, s2_, s3_]
    refine qw_val (v := .slice (some ⟨ba, oa, none⟩) n ca) 28 rfl (by kernel_rfl) (fun w' hS => exec_move _ rfl (.slice (some ⟨ba, oa, none⟩) n ca) rfl) ?_
    simp only [Act.put, s1_, s2_, s3_]
    refine qw_val (v := .int .i64 ((i : Int))) 29 rfl (by kernel_rfl) (fun w' hS => exec_move _ rfl (.int .i64 ((i : Int))) rfl) ?_
    simp only [Act.put, s1_, s2_, s3_]
    refine qw_val (v := .pointer (some ⟨ba, oa + i * 108, none⟩)) 30 rfl (by kernel_rfl) (fun w' hS => exec_indexG _ _ _ rfl _ n ca ba oa 108 i rfl rfl rfl (by omega) (by kernel_rfl) _ (by omega)) ?_
    simp only [Act.put, s1_, s2_, s3_]
    refine qw_val (v := .pointer (some ⟨ba, oa + i * 108 + 1, none⟩)) 31 rfl (by kernel_rfl) (fun w' hS => exec_fieldG _ _ 1 1 rfl ba (oa + i * 108) rfl (by kernel_rfl) _ (by first | rfl | omega)) ?_
    simp only [Act.put, s1_, s2_, s3_]
    refine qw_val (v := .agg (capCells x.read lr).toArray) 32 rfl (by kernel_rfl) (fun w' hS => exec_loadAll _ _ rfl ba (oa + i * 108 + 1) rfl _ _ (fun j u hu => (hS.cell (p := ⟨ba, oa + i * 108 + 1 + j, none⟩) hba).trans (HXR.out j u hu)) Tryd.underlying28 rfl HXSR.out) ?_
    simp only [Act.put, s1_, s2_, s3_]
    refine qw_val (v := .slice (some ⟨bb, ob, none⟩) n cb) 33 rfl (by kernel_rfl) (fun w' hS => exec_move _ rfl (.slice (some ⟨bb, ob, none⟩) n cb) rfl) ?_
    simp only [Act.put, s1_, s2_, s3_]
    refine qw_val (v := .int .i64 ((i : Int))) 34 rfl (by kernel_rfl) (fun w' hS => exec_move _ rfl (.int .i64 ((i : Int))) rfl) ?_
    simp only [Act.put, s1_, s2_, s3_]
    refine qw_val (v := .pointer (some ⟨bb, ob + i * 108, none⟩)) 35 rfl (by kernel_rfl) (fun w' hS => exec_indexG _ _ _ rfl _ n cb bb ob 108 i rfl rfl rfl (by omega) (by kernel_rfl) _ (by omega)) ?_
    simp only [Act.put, s1_, s2_, s3_]
    refine qw_val (v := .pointer (some ⟨bb, ob + i * 108 + 1, none⟩)) 36 rfl (by kernel_rfl) (fun w' hS => exec_fieldG _ _ 1 1 rfl bb (ob + i * 108) rfl (by kernel_rfl) _ (by first | rfl | omega)) ?_
    simp only [Act.put, s1_, s2_, s3_]
    refine qw_val (v := .agg (capCells y.read kr).toArray) 37 rfl (by kernel_rfl) (fun w' hS => exec_loadAll _ _ rfl bb (ob + i * 108 + 1) rfl _ _ (fun j u hu => (hS.cell (p := ⟨bb, ob + i * 108 + 1 + j, none⟩) hbb).trans (HYR.out j u hu)) Tryd.underlying28 rfl HYSR.out) ?_
    simp only [Act.put, s1_, s2_, s3_]
    refine qw_call (v := .bool true) 38 rfl (by kernel_rfl) 49 #[.agg (capCells x.read lr).toArray, .agg (capCells y.read kr).toArray] (fun w' => exec_call _ _ _ rfl _ (by simp [Act.eval]) (by go_simp)) (fun w' hS => HCR.out w' hS) ?_
    simp only [Act.put, s1_, s2_, s3_]
    refine qw_val (v := .bool false) 39 rfl (by kernel_rfl) (fun w' hS => exec_notG _ _ rfl true rfl _ rfl) ?_
    simp only [Act.put, s1_, s2_, s3_]
    refine qw_val (v := .bool false) 40 rfl (by kernel_rfl) (fun w' hS => exec_pickG _ _ _ rfl false rfl _ rfl) ?_
    simp only [Act.put, s1_, s2_, s3_]
    refine qw_val (v := .bool false) 41 rfl (by kernel_rfl) (fun w' hS => exec_move _ rfl (.bool false) rfl) ?_
    simp only [Act.put, s1_, s2_, s3_]
    refine qw_val (v := .slice (some ⟨ba, oa, none⟩) n ca) 42 rfl (by kernel_rfl) (fun w' hS => exec_move _ rfl (.slice (some ⟨ba, oa, none⟩) n ca) rfl) ?_
    simp only [Act.put, s1_, s2_, s3_]
    refine qw_val (v := .int .i64 ((i : Int))) 43 rfl (by kernel_rfl) (fun w' hS => exec_move _ rfl (.int .i64 ((i : Int))) rfl) ?_
    simp only [Act.put, s1_, s2_, s3_]
    refine qw_val (v := .pointer (some ⟨ba, oa + i * 108, none⟩)) 44 rfl (by kernel_rfl) (fun w' hS => exec_indexG _ _ _ rfl _ n ca ba oa 108 i rfl rfl rfl (by omega) (by kernel_rfl) _ (by omega)) ?_
    simp only [Act.put, s1_, s2_, s3_]
    refine qw_val (v := .pointer (some ⟨ba, oa + i * 108 + 54, none⟩)) 45 rfl (by kernel_rfl) (fun w' hS => exec_fieldG _ _ 2 54 rfl ba (oa + i * 108) rfl (by kernel_rfl) _ (by first | rfl | omega)) ?_
    simp only [Act.put, s1_, s2_, s3_]
    refine qw_val (v := .agg (capCells x.write lw).toArray) 46 rfl (by kernel_rfl) (fun w' hS => exec_loadAll _ _ rfl ba (oa + i * 108 + 54) rfl _ _ (fun j u hu => (hS.cell (p := ⟨ba, oa + i * 108 + 54 + j, none⟩) hba).trans (HXW.out j u hu)) Tryd.underlying28 rfl HXSW.out) ?_
    simp only [Act.put, s1_, s2_, s3_]
    refine qw_val (v := .slice (some ⟨bb, ob, none⟩) n cb) 47 rfl (by kernel_rfl) (fun w' hS => exec_move _ rfl (.slice (some ⟨bb, ob, none⟩) n cb) rfl) ?_
    simp only [Act.put, s1_, s2_, s3_]
    refine qw_val (v := .int .i64 ((i : Int))) 48 rfl (by kernel_rfl) (fun w' hS => exec_move _ rfl (.int .i64 ((i : Int))) rfl) ?_
    simp only [Act.put, s1_, s2_, s3_]
    refine qw_val (v := .pointer (some ⟨bb, ob + i * 108, none⟩)) 49 rfl (by kernel_rfl) (fun w' hS => exec_indexG _ _ _ rfl _ n cb bb ob 108 i rfl rfl rfl (by omega) (by kernel_rfl) _ (by omega)) ?_
    simp only [Act.put, s1_, s2_, s3_]
    refine qw_val (v := .pointer (some ⟨bb, ob + i * 108 + 54, none⟩)) 50 rfl (by kernel_rfl) (fun w' hS => exec_fieldG _ _ 2 54 rfl bb (ob + i * 108) rfl (by kernel_rfl) _ (by first | rfl | omega)) ?_
    simp only [Act.put, s1_, s2_, s3_]
    refine qw_val (v := .agg (capCells y.write kw).toArray) 51 rfl (by kernel_rfl) (fun w' hS => exec_loadAll _ _ rfl bb (ob + i * 108 + 54) rfl _ _ (fun j u hu => (hS.cell (p := ⟨bb, ob + i * 108 + 54 + j, none⟩) hbb).trans (HYW.out j u hu)) Tryd.underlying28 rfl HYSW.out) ?_
    simp only [Act.put, s1_, s2_, s3_]
    refine qw_call (v := .bool true) 52 rfl (by kernel_rfl) 49 #[.agg (capCells x.write lw).toArray, .agg (capCells y.write kw).toArray] (fun w' => exec_call _ _ _ rfl _ (by simp [Act.eval]) (by go_simp)) (fun w' hS => HCW.out w' hS) ?_
    simp only [Act.put, s1_, s2_, s3_]
    refine qw_val (v := .bool false) 53 rfl (by kernel_rfl) (fun w' hS => exec_notG _ _ rfl true rfl _ rfl) ?_
    simp only [Act.put, s1_, s2_, s3_]
    refine qw_val (v := .bool false) 54 rfl (by kernel_rfl) (fun w' hS => exec_pickG _ _ _ rfl false rfl _ rfl) ?_
    simp only [Act.put, s1_, s2_, s3_]
    refine qw_val (v := .bool false) 55 rfl (by kernel_rfl) (fun w' hS => exec_move _ rfl (.bool false) rfl) ?_
    simp only [Act.put, s1_, s2_, s3_]
    refine qw_val (v := .slice (some ⟨ba, oa, none⟩) n ca) 56 rfl (by kernel_rfl) (fun w' hS => exec_move _ rfl (.slice (some ⟨ba, oa, none⟩) n ca) rfl) ?_
    simp only [Act.put, s1_, s2_, s3_]
    refine qw_val (v := .int .i64 ((i : Int))) 57 rfl (by kernel_rfl) (fun w' hS => exec_move _ rfl (.int .i64 ((i : Int))) rfl) ?_
    simp only [Act.put, s1_, s2_, s3_]
    refine qw_val (v := .pointer (some ⟨ba, oa + i * 108, none⟩)) 58 rfl (by kernel_rfl) (fun w' hS => exec_indexG _ _ _ rfl _ n ca ba oa 108 i rfl rfl rfl (by omega) (by kernel_rfl) _ (by omega)) ?_
    simp only [Act.put, s1_, s2_, s3_]
    refine qw_val (v := .pointer (some ⟨ba, oa + i * 108 + 107, none⟩)) 59 rfl (by kernel_rfl) (fun w' hS => exec_fieldG _ _ 3 107 rfl ba (oa + i * 108) rfl (by kernel_rfl) _ (by first | rfl | omega)) ?_
    simp only [Act.put, s1_, s2_, s3_]
    refine qw_val (v := .bool hx) 60 rfl (by kernel_rfl) (fun w' hS => exec_load_one _ _ rfl ba (oa + i * 108 + 107) rfl _ Tryd.underlying4 rfl _ ((hS.cell (p := ⟨ba, oa + i * 108 + 107, none⟩) hba).trans HXH.out)) ?_
    simp only [Act.put, s1_, s2_, s3_]
    refine qw_val (v := .slice (some ⟨bb, ob, none⟩) n cb) 61 rfl (by kernel_rfl) (fun w' hS => exec_move _ rfl (.slice (some ⟨bb, ob, none⟩) n cb) rfl) ?_
    simp only [Act.put, s1_, s2_, s3_]
    refine qw_val (v := .int .i64 ((i : Int))) 62 rfl (by kernel_rfl) (fun w' hS => exec_move _ rfl (.int .i64 ((i : Int))) rfl) ?_
    simp only [Act.put, s1_, s2_, s3_]
    refine qw_val (v := .pointer (some ⟨bb, ob + i * 108, none⟩)) 63 rfl (by kernel_rfl) (fun w' hS => exec_indexG _ _ _ rfl _ n cb bb ob 108 i rfl rfl rfl (by omega) (by kernel_rfl) _ (by omega)) ?_
    simp only [Act.put, s1_, s2_, s3_]
    refine qw_val (v := .pointer (some ⟨bb, ob + i * 108 + 107, none⟩)) 64 rfl (by kernel_rfl) (fun w' hS => exec_fieldG _ _ 3 107 rfl bb (ob + i * 108) rfl (by kernel_rfl) _ (by first | rfl | omega)) ?_
    simp only [Act.put, s1_, s2_, s3_]
    refine qw_val (v := .bool hy) 65 rfl (by kernel_rfl) (fun w' hS => exec_load_one _ _ rfl bb (ob + i * 108 + 107) rfl _ Tryd.underlying4 rfl _ ((hS.cell (p := ⟨bb, ob + i * 108 + 107, none⟩) hbb).trans HYH.out)) ?_
    simp only [Act.put, s1_, s2_, s3_]
    refine qw_val (v := .bool false) 66 rfl (by kernel_rfl) (fun w' hS => exec_neqB2 _ _ _ rfl hx hy rfl rfl false HNH.out) ?_
    simp only [Act.put, s1_, s2_, s3_]
    refine qw_val (v := .bool false) 67 rfl (by kernel_rfl) (fun w' hS => exec_pickG _ _ _ rfl false rfl _ rfl) ?_
    simp only [Act.put, s1_, s2_, s3_]
    refine qw_nil ?_
    intro w2 hS
    have HB2 := hide hS
    clear hS
    go_wp2_with fail
    go_roundw
    case measure => simp [intOf]; omega
    case rel => exact ⟨i + 1, by go_num, by omega, HTK.out, HB2.out⟩
  · obtain rfl : i = n := by omega
    have hlt' : ¬ (i : Int) < (i : Int) := by omega
    have HNO := hide (show R = true by
     have h := HT.out
     rw [List.take_of_length_le (by rw [HN.out]; exact Nat.le_refl _), List.take_of_length_le (by rw [HM.out]; exact Nat.le_refl _)] at h
     rw [← HR.out]
     exact (entsEq_iff la lb).2 h)
    have HB2 := HB
    go_wp2_with fail
    go_ret
    exact ⟨by rw [HNO.out]; rfl, HB2.out⟩
end Go.Proofs.YthdjgebbjogmiaaDoor
