/- aumbryref01.block, walked. -/
import Derived.Test.YthdjgebbjogmiaaGreatDoorJoin13
import Derived.Test.YthdjgebbjogmiaaGreatDoorJoin1
import Derived.LoopIn
import Derived.Deep.RegionHeld3
import Derived.Deep.DeepCutAuto
import Derived.Deep.CutRange
import Derived.StillTailTactics
set_option linter.unusedVariables false
set_option linter.unusedSimpArgs false
namespace Go.Proofs.YthdjgebbjogmiaaGreatDoor
open Go Go.RowKit

theorem grown_set {w w' : World} {g : Nat} (h : w.grownBy w' (some g)) (i : Nat) (v : Value) : w.grownBy (w'.setCell ⟨g, i, none⟩ v) (some g) :=
 h.trans (grown_setCells [v] w' i).1
theorem mixAt_four (b : List Int) (c i : Nat) (hi : i < 4) :
 mixAt b (4 * c + i) = X8 (X8 (X8 (X8 (tw (b.getD (4 * c + i) 0)) (tw (b.getD (4 * c + (i + 1) % 4) 0))) (b.getD (4 * c + (i + 1) % 4) 0)) (b.getD (4 * c + (i + 2) % 4) 0)) (b.getD (4 * c + (i + 3) % 4) 0) := by
 unfold mixAt
 rw [show 4 * ((4 * c + i) / 4) + (4 * c + i + 1) % 4 = 4 * c + (i + 1) % 4 from by omega, show 4 * ((4 * c + i) / 4) + (4 * c + i + 2) % 4 = 4 * c + (i + 2) % 4 from by omega,
  show 4 * ((4 * c + i) / 4) + (4 * c + i + 3) % 4 = 4 * c + (i + 3) % 4 from by omega]
theorem subAt_four (T a : List Int) (c i : Nat) (hi : i < 4) : subAt T a (4 * c + i) = T.getD (a.getD ((4 * (c + i) + i) % 16) 0).toNat 0 := by
 unfold subAt;rw [show (4 * c + i + 4 * ((4 * c + i) % 4)) % 16 = (4 * (c + i) + i) % 16 from by omega]
/-- A counting loop that lays value f j in place j. -/
theorem upto_set {f g : Nat → Int} {xs : List Int} {n k : Nat} (hl : xs.length = n) (hk : k < n) (h : ∀ j, j < n → xs.getD j 0 = if j < k then f j else g j) (v : Int) (hv : v = f k) :
 ∀ j, j < n → (xs.set k v).getD j 0 = if j < k + 1 then f j else g j := fun j hj => by
 rw [getD_set' _ _ _ _ (by omega)]
 by_cases e : k = j
 · subst e; rw [if_pos rfl, if_pos (by omega), hv]
 · rw [if_neg e, h j hj]
   by_cases h1 : j < k
   · rw [if_pos h1, if_pos (by omega)]
   · rw [if_neg h1, if_neg (by omega)]
theorem upto_zero {f g : Nat → Int} {xs : List Int} {n : Nat} (h : ∀ j, j < n → xs.getD j 0 = g j) : ∀ j, j < n → xs.getD j 0 = if j < 0 then f j else g j := fun j hj => by rw [if_neg (by omega), h j hj]
theorem rep_getD (n j : Nat) : (List.replicate n (0 : Int)).getD j 0 = 0 := by
 rw [List.getD_eq_getElem?_getD, List.getElem?_replicate]; split <;> rfl

set_option maxRecDepth 100000 in
set_option maxHeartbeats 8000000 in
theorem block_ref (T ks inp : List Int) (kb tb : Nat) (w : World) (hT : byteL T) (hk : ks.length = 176) (bk : Bytes ks) (hi : inp.length = 16) (bi : Bytes inp)
 (hkb : Blk w kb 84 (u8s ks)) (htb : Blk w tb 82 (u8s T)) (hkl : kb < w.heap.size) (htl : tb < w.heap.size) :
 Calls Tryz.prog 62 #[.pointer (some ⟨tb, 0, none⟩), .pointer (some ⟨kb, 0, none⟩), .agg (u8s inp).toArray] w fun e w' => e = .returned (.agg (u8s (blockF T ks inp)).toArray) ∧ Below w.heap.size w w' := by
 have HT := hide hT;have HK := hide hk;have HBK := hide bk;have HL := hide hi;have HBI := hide bi;have HKB := hide hkb;have HTB := hide htb;have HI16 := hide (show (Tryz.prog.info? 22).map (·.size) = some (u8s inp).length by rw [u8s_len, hi]; exact size16);clear hT hk bk hi bi hkb htb;obtain ⟨RES, HRES⟩ : ∃ x, Hid (blockF T ks inp = x) := ⟨_, hide rfl⟩;rw [HRES.out]
 go_enter Tryz.func62, Tryz.ntmps62
 go_upto_region 1 with fail
 obtain ⟨wb, HW⟩ : ∃ wb, Hid ((w.alloc (.cells (u8s inp).toArray 22)).alloc (.cells (u8s (List.replicate 16 0)).toArray 22) = wb) := ⟨_, hide rfl⟩;have B1 := hide (show Blk wb w.heap.size 22 (u8s inp) by rw [← HW.out]; exact (Blk.new w 22 (u8s inp)).alloc _);have B2 := hide (show Blk wb (w.heap.size + 1) 22 (u8s (List.replicate 16 0)) by rw [← HW.out]; have := Blk.new (w.alloc (.cells (u8s inp).toArray 22)) 22 (u8s (List.replicate 16 0)); simpa using this);have HB := hide (show Below w.heap.size w wb by rw [← HW.out]; exact ((Below.refl w.heap.size w).alloc (Nat.le_refl _) _).alloc (by simp) _);have HSZ := hide (show wb.heap.size = w.heap.size + 2 by rw [← HW.out]; simp)
 show (Code.region _ _ _).wp _ _ _ ((w.alloc (.cells (u8s inp).toArray 22)).alloc (.cells (u8s (List.replicate 16 0)).toArray 22))
 rw [HW.out]
 go_wp2_with (first | (refine wpList_load_blk rfl 22 _ rfl _ rfl _ _ B1.out 16 5 rfl HI16.out ?_) | (refine wpList_alloc_blk rfl 22 rfl _ zero16 ?_; intro wa ba hba hsa; have BA := hide ba; have HBA := hide hba; have HSA := hide hsa; clear ba hba hsa) | (refine wpList_store_blk rfl 22 _ _ rfl _ 0 (u8s inp) rfl rfl _ _ BA.out (by rw [u8s_len, u8s_len, HL.out]; simp) HI16.out (u8s_one _) ?_; intro w1 b1 hg1 hs1))
 obtain ⟨gx, HGX⟩ : ∃ x, Hid (wb.heap.size = x) := ⟨_, hide rfl⟩;rw [lset_all _ _ (by rw [u8s_len, u8s_len, HL.out]; simp), HGX.out] at b1;rw [HGX.out] at hg1;rw [HGX.out];have HG := hide (show w.heap.size + 2 ≤ gx by rw [← HGX.out, HSZ.out]; exact Nat.le_refl _);have HBWa := hide (HB.out.trans (HBA.out.mono (by rw [HSZ.out]; omega)));have BX1 := hide b1;have BO1 := hide (((B2.out.below HBA.out B2.out.lt)).grown hg1 (by have := HG.out; simp <;> omega));have HBW1 := hide (HBWa.out.grown hg1 HBWa.out.size (by intro k hk; have := HG.out; simp at hk; omega));clear b1 hg1 hs1 HSA HBWa BA HBA HB B2 B1 HSZ
 go_wp2_with fail
 go_loopw [8, 18] (fun _ vi wr => ∃ (i : Nat) (xs : List Int), i ≤ 16 ∧ vi = .int .i64 i ∧ xs.length = 16 ∧ (∀ j, j < 16 → xs.getD j 0 = if j < i then X8 (inp.getD j 0) ((rowAt ks 0).getD j 0) else inp.getD j 0) ∧
  Blk wr gx 22 (u8s xs) ∧ Blk wr (w.heap.size + 1) 22 (u8s (List.replicate 16 0)) ∧ Below w.heap.size w wr) (fun _ vi _ => 16 - (intOf vi).toNat)
 case atStart => exact ⟨0, inp, by omega, rfl, HL.out, upto_zero fun j _ => rfl, BX1.out, BO1.out, HBW1.out⟩
 case round =>
  clear BX1 BO1 HBW1;obtain ⟨i, xs, hi, rfl, hl, hx, bx, bo, hbel⟩ := hrel;have HXL := hide hl;have HX := hide hx;have BX := hide bx;have BO := hide bo;have HBW := hide hbel;have hgx := HG.out;have hglt := bx.lt;have holt := bo.lt;clear hl hx bx bo hbel
  by_cases hit : i < 16
  · have KB := hide (HKB.out.below HBW.out hkl)
    have i0 : (0 : Int) ≤ (i : Int) := by omega
    have i1 : (i : Int) < 16 := by omega
    obtain ⟨x, HXi⟩ : ∃ x, Hid (xs.getD i 0 = x) := ⟨_, hide rfl⟩;obtain ⟨k, HKi⟩ : ∃ x, Hid (ks.getD i 0 = x) := ⟨_, hide rfl⟩;have c1 := blk_get BX.out i x (by rw [HXL.out]; exact hit) HXi.out;have c2 := blk_get KB.out i k (by rw [HK.out]; omega) HKi.out;have f1 := BX.out.frozen i
    go_wp2_with fail
    go_region
    all_goals
     go_wp2_with fail
     go_roundw
     case measure => simp [intOf]; omega
     case rel =>
      have e1 : (i : Int) + 1 = ((i + 1 : Nat) : Int) := by omega
      refine ⟨i + 1, xs.set i (X8 x k), by omega, by rw [e1], by simpa using HXL.out, upto_set HXL.out hit HX.out _ ?_, (blk_set BX.out i _).drew, (BO.out.far (p := ⟨gx, i, none⟩) (by simp; omega) _).drew, (HBW.out.setCell (p := ⟨gx, i, none⟩) (by simp; omega) _).drew⟩;rw [rowAt_get 0 i hit, show 0 * 16 + i = i from by omega, HKi.out, ← HXi.out, HX.out i hit, if_neg (by omega)]
  · have HX0 := hide (show xs = blockR T ks inp 0 from ext_getD (by rw [HXL.out]; exact (xorF_len _ _ HL.out (rowAt_len HK.out 0 (by omega))).symm) fun j hj => by
     rw [HXL.out] at hj;rw [HX.out j hj, if_pos (by omega)]
     exact (xorF_get inp (rowAt ks 0) j (by rw [HL.out]; exact hj) (by rw [rowAt_len HK.out 0 (by omega)]; exact hj)).symm)
    have BX' := hide (show Blk wr gx 22 (u8s (blockR T ks inp 0)) by rw [← HX0.out]; exact BX.out);clear HX0 HX HXL BX
    go_wp2_with fail
    obtain ⟨wz, rfl⟩ : ∃ wz : World, wz = wr := ⟨_, rfl⟩
    go_loopw [9] (fun vr wr => ∃ r : Nat, r ≤ 10 ∧ vr = .int .i64 ((r + 1 : Nat) : Int) ∧ Blk wr gx 22 (u8s (blockR T ks inp r)) ∧ Blk wr (w.heap.size + 1) 22 (u8s (List.replicate 16 0)) ∧ Below w.heap.size w wr) (fun vr _ => (11 - intOf vr).toNat)
    case atStart => exact ⟨0, by omega, rfl, BX'.out, BO.out, HBW.out⟩
    case round =>
     clear BX' BO HBW;obtain ⟨wo, rfl⟩ : ∃ wo : World, wo = wr := ⟨_, rfl⟩;obtain ⟨r, hr, rfl, bx, bo, hbel⟩ := hrel;obtain ⟨al, ab⟩ := blockR_ok HT.out.2 HK.out HBK.out HL.out HBI.out r hr;have HN := hide (show blockR T ks inp (r + 1) = xorF (midF T (blockR T ks inp r) (r + 1)) (rowAt ks (r + 1)) from rfl);obtain ⟨A, HA⟩ : ∃ x, Hid (blockR T ks inp r = x) := ⟨_, hide rfl⟩;rw [HA.out] at bx al ab HN;have BX := hide bx;have BO := hide bo;have HBW := hide hbel;have HAL := hide al;have HAB := hide ab;have KB := hide (HKB.out.below hbel hkl);have TB := hide (HTB.out.below hbel htl);have hglt := bx.lt;have holt := bo.lt;have hkl2 := KB.out.lt;have htl2 := TB.out.lt;have hwo := hbel.size;clear bx bo hbel al ab
     by_cases hrt : r < 10
     · go_wp2_with (refine wpList_alloc_blk rfl 22 rfl _ zero16 ?_; intro wa ba hba hsa; have BA := hide ba; have HBA := hide hba; have HSA := hide hsa; clear ba hba hsa)
       have hba := BA.out.lt;obtain ⟨gy, HGY⟩ : ∃ x, Hid (wo.heap.size = x) := ⟨_, hide rfl⟩;have HBAy := hide (show Below gy wo wa by rw [← HGY.out]; exact HBA.out);have BAy := hide (show Blk wa gy 22 (u8s (List.replicate 16 0)) by rw [← HGY.out]; exact BA.out)
       have hgy : gx < gy := by rw [← HGY.out]; exact hglt
       have hty : tb < gy := by rw [← HGY.out]; exact htl2
       have hky : kb < gy := by rw [← HGY.out]; exact hkl2
       have hoy : w.heap.size + 1 < gy := by rw [← HGY.out]; exact holt
       rw [HGY.out];rw [HGY.out] at hba;clear BA HBA
       go_loopw [11] (fun vc wq => ∃ (c : Nat) (xs : List Int), c ≤ 4 ∧ vc = .int .i64 c ∧ xs.length = 16 ∧ (∀ j, j < 16 → xs.getD j 0 = if j < 4 * c then subAt T A j else 0) ∧ Blk wq gy 22 (u8s xs) ∧ Below gy wo wq) (fun vc _ => 4 - (intOf vc).toNat)
       case atStart => exact ⟨0, List.replicate 16 0, by omega, rfl, by simp, upto_zero fun j _ => rep_getD 16 j, BAy.out, HBAy.out⟩
       case round =>
        clear BAy HBAy;obtain ⟨c, xs, hc, rfl, hl, hx, by', hbel⟩ := hrel;obtain ⟨wp, rfl⟩ : ∃ wp : World, wp = wr := ⟨_, rfl⟩;have HXL := hide hl;have HX := hide hx
        have BY := hide by'
        have HBY := hide hbel
        clear hl hx by' hbel
        by_cases hct : c < 4
        · have hct' : (c : Int) < 4 := by omega
          go_wp2_with fail
          go_loopw [12] (fun vi wq => ∃ (i : Nat) (xs : List Int), i ≤ 4 ∧ vi = .int .i64 i ∧ xs.length = 16 ∧ (∀ j, j < 16 → xs.getD j 0 = if j < 4 * c + i then subAt T A j else 0) ∧ Blk wq gy 22 (u8s xs) ∧ Below gy wo wq) (fun vi _ => 4 - (intOf vi).toNat)
          case atStart => exact ⟨0, xs, by omega, rfl, HXL.out, HX.out, BY.out, HBY.out⟩
          case round =>
           clear HX HXL BY HBY;obtain ⟨i, xs, hi, rfl, hl, hx, by', hbel⟩ := hrel;have HXL := hide hl;have HX := hide hx
           have BY := hide by'
           have HBY := hide hbel
           clear hl hx by' hbel
           by_cases hit : i < 4
           · skip
             as_aux_lemma =>
              have BXq := hide (BX.out.below HBY.out hgy);have TBq := hide (TB.out.below HBY.out hty);obtain ⟨f, hf⟩ : ∃ f, 4 * c = f := ⟨_, rfl⟩;obtain ⟨e, he⟩ : ∃ e, f + i = e := ⟨_, rfl⟩;obtain ⟨h, hh⟩ : ∃ h, c + i = h := ⟨_, rfl⟩;obtain ⟨q, hq⟩ : ∃ q, 4 * h = q := ⟨_, rfl⟩;obtain ⟨p, hp⟩ : ∃ p, q + i = p := ⟨_, rfl⟩;obtain ⟨j, hj⟩ : ∃ j, p % 16 = j := ⟨_, rfl⟩
              have w1 : IntKind.i64.wrap (4 * (c : Int)) = (f : Int) := by rw [IntWalk.i64_in _ (by omega)]; omega
              have w2 : IntKind.i64.wrap ((f : Int) + (i : Int)) = (e : Int) := by rw [IntWalk.i64_in _ (by omega)]; omega
              have w3 : IntKind.i64.wrap ((c : Int) + (i : Int)) = (h : Int) := by rw [IntWalk.i64_in _ (by omega)]; omega
              have w4 : IntKind.i64.wrap (4 * (h : Int)) = (q : Int) := by rw [IntWalk.i64_in _ (by omega)]; omega
              have w5 : IntKind.i64.wrap ((q : Int) + (i : Int)) = (p : Int) := by rw [IntWalk.i64_in _ (by omega)]; omega
              have t1 : (p : Int).tmod 16 = (j : Int) := by rw [Int.tmod_eq_emod_of_nonneg (by omega)]; omega
              have HE := hide (show 4 * c + i = e by omega);have HJ := hide (show (4 * (c + i) + i) % 16 = j by rw [← hj, ← hp, ← hq, ← hh])
              have e0 : (0 : Int) ≤ (e : Int) := by omega
              have e1 : (e : Int) < 16 := by omega
              have e2 : e < 16 := by omega
              have j0 : (0 : Int) ≤ (j : Int) := by omega
              have j1 : (j : Int) < 16 := by omega
              have j2 : j < 16 := by omega
              have i0 : (0 : Int) ≤ (i : Int) := by omega
              have i1 : (i : Int) < 4 := by omega
              obtain ⟨x, HXj⟩ : ∃ x, Hid (A.getD j 0 = x) := ⟨_, hide rfl⟩;have x0 := HAB.out.getD j;rw [HXj.out] at x0;obtain ⟨x0, x1⟩ := x0;obtain ⟨y, HYx⟩ : ∃ y, Hid (T.getD x.toNat 0 = y) := ⟨_, hide rfl⟩;have c1 := blk_get BXq.out j x (by rw [HAL.out]; exact j2) HXj.out;have c2 := blk_get TBq.out x.toNat y (by rw [HT.out.1]; omega) HYx.out;obtain ⟨old, HOLD⟩ : ∃ x, Hid (xs.getD e 0 = x) := ⟨_, hide rfl⟩;have c3 := blk_get BY.out e old (by rw [HXL.out]; omega) HOLD.out;have f3 := BY.out.frozen e;clear hf he hh hq hp hj
              go_wp2_with fail
              go_region
              all_goals
               go_wp2_with fail
               go_roundw
               case measure => simp [intOf]; omega
               case rel =>
                have e1 : (i : Int) + 1 = ((i + 1 : Nat) : Int) := by omega
                refine ⟨i + 1, xs.set e y, by omega, by rw [e1], by simpa using HXL.out, ?_, (blk_set BY.out e _).drew, (HBY.out.setCell (p := ⟨gy, e, none⟩) (Nat.le_refl _) _).drew⟩;have := upto_set (k := e) HXL.out e2 (by rw [← HE.out]; exact HX.out) y (by rw [← HE.out, subAt_four T A c i hit, HJ.out, HXj.out, HYx.out]);rw [show 4 * c + (i + 1) = e + 1 by rw [← HE.out]; omega]
                exact this
           · have HI4 := hide (show 4 * c + i = 4 * (c + 1) by omega)
             have HC1 := hide (show (c : Int) + 1 = ((c + 1 : Nat) : Int) by omega)
             go_wp2_with fail
             go_roundw
             case measure => simp [intOf]; omega
             case rel => exact ⟨c + 1, xs, by omega, by rw [HC1.out], HXL.out, by rw [← HI4.out]; exact HX.out, BY.out, HBY.out⟩
        · have HXS := hide (show xs = subF T A from ext_getD (by rw [HXL.out, subF_len]) fun k hk => by rw [HXL.out] at hk; rw [HX.out k hk, if_pos (by omega), subF_get T A k hk])
          go_upto_if 64 with fail
          have HBL := hide (subF_len T A);have HBB := hide (subF_bytes HT.out.2 A)
          go_cut [] (fun wx => Blk wx gy 22 (u8s (midF T A (r + 1))) ∧ Below gy wo wx)
          case first =>
           obtain ⟨B, HBs⟩ : ∃ x, Hid (subF T A = x) := ⟨_, hide rfl⟩;rw [HBs.out] at HXS HBL HBB
           by_cases h9 : r + 1 < 10
           · have h9' : decide ((r : Int) + 1 < 10) = true := by simp; omega
             rw [h9'];clear h9';have HMid := hide (show midF T A (r + 1) = columnsF B by rw [midF, if_pos h9, HBs.out]);have HX' := hide (show ∀ j, j < 16 → xs.getD j 0 = if j < 4 * 0 then mixAt B j else B.getD j 0 from fun j hj => by rw [if_neg (by omega), HXS.out]);clear HX
             go_wp2_with fail
             go_loopw [13] (fun vc wq => ∃ (c : Nat) (xs : List Int), c ≤ 4 ∧ vc = .int .i64 c ∧ xs.length = 16 ∧ (∀ j, j < 16 → xs.getD j 0 = if j < 4 * c then mixAt B j else B.getD j 0) ∧ Blk wq gy 22 (u8s xs) ∧ Below gy wo wq) (fun vc _ => 4 - (intOf vc).toNat)
             case atStart => exact ⟨0, xs, by omega, rfl, HXL.out, HX'.out, BY.out, HBY.out⟩
             case round =>
              clear HX' HXL BY HBY HXS HBs;obtain ⟨c, xs, hc, rfl, hl, hx, by', hbel⟩ := hrel;obtain ⟨wv, rfl⟩ : ∃ wv : World, wv = wr := ⟨_, rfl⟩;have HXL := hide hl;have HX := hide hx
              have BY := hide by'
              have HBY := hide hbel
              have hyl := by'.lt
              have hgyv : gy ≤ wv.heap.size := Nat.le_of_lt hyl
              clear hl hx by' hbel
              by_cases hct : c < 4
              · have hct' : (c : Int) < 4 := by omega
                go_wp2_with fail
                go_cut [14] from 65 to 126 (fun va wx => ∃ a4 : List Int, va = .pointer (some ⟨wv.heap.size, 0, none⟩) ∧ a4.length = 4 ∧ (∀ k, k < 4 → a4.getD k 0 = B.getD (4 * c + k) 0) ∧ Blk wx wv.heap.size 97 (u8s a4) ∧ Below wv.heap.size wv wx)
                case first =>
                 as_aux_lemma =>
                  obtain ⟨f, hf⟩ : ∃ f, 4 * c = f := ⟨_, rfl⟩;obtain ⟨e1, he1⟩ : ∃ e, f + 1 = e := ⟨_, rfl⟩;obtain ⟨e2, he2⟩ : ∃ e, f + 2 = e := ⟨_, rfl⟩;obtain ⟨e3, he3⟩ : ∃ e, f + 3 = e := ⟨_, rfl⟩
                  have w1 : IntKind.i64.wrap (4 * (c : Int)) = (f : Int) := by rw [IntWalk.i64_in _ (by omega)]; omega
                  have w2 : IntKind.i64.wrap ((f : Int) + 1) = (e1 : Int) := by rw [IntWalk.i64_in _ (by omega)]; omega
                  have w3 : IntKind.i64.wrap ((f : Int) + 2) = (e2 : Int) := by rw [IntWalk.i64_in _ (by omega)]; omega
                  have w4 : IntKind.i64.wrap ((f : Int) + 3) = (e3 : Int) := by rw [IntWalk.i64_in _ (by omega)]; omega
                  have b0 : (0 : Int) ≤ (f : Int) ∧ (f : Int) < 16 := by omega
                  have b1 : (0 : Int) ≤ (e1 : Int) ∧ (e1 : Int) < 16 := by omega
                  have b2 : (0 : Int) ≤ (e2 : Int) ∧ (e2 : Int) < 16 := by omega
                  have b3 : (0 : Int) ≤ (e3 : Int) ∧ (e3 : Int) < 16 := by omega
                  have l0 : f < 16 := by omega
                  have l1 : e1 < 16 := by omega
                  have l2 : e2 < 16 := by omega
                  have l3 : e3 < 16 := by omega
                  have HF := hide (And.intro hf (And.intro he1 (And.intro he2 he3)));have HY0 := hide (show xs.getD f 0 = B.getD f 0 by rw [HX.out f l0, if_neg (by omega)]);have HY1 := hide (show xs.getD e1 0 = B.getD e1 0 by rw [HX.out e1 l1, if_neg (by omega)]);have HY2 := hide (show xs.getD e2 0 = B.getD e2 0 by rw [HX.out e2 l2, if_neg (by omega)]);have HY3 := hide (show xs.getD e3 0 = B.getD e3 0 by rw [HX.out e3 l3, if_neg (by omega)]);obtain ⟨y0, HB0⟩ : ∃ y, Hid (B.getD f 0 = y) := ⟨_, hide rfl⟩;obtain ⟨y1, HB1⟩ : ∃ y, Hid (B.getD e1 0 = y) := ⟨_, hide rfl⟩;obtain ⟨y2, HB2⟩ : ∃ y, Hid (B.getD e2 0 = y) := ⟨_, hide rfl⟩;obtain ⟨y3, HB3⟩ : ∃ y, Hid (B.getD e3 0 = y) := ⟨_, hide rfl⟩;rw [HB0.out] at HY0;rw [HB1.out] at HY1;rw [HB2.out] at HY2;rw [HB3.out] at HY3;have d0 := blk_get BY.out f y0 (by rw [HXL.out]; exact l0) HY0.out;have d1 := blk_get BY.out e1 y1 (by rw [HXL.out]; exact l1) HY1.out;have d2 := blk_get BY.out e2 y2 (by rw [HXL.out]; exact l2) HY2.out;have d3 := blk_get BY.out e3 y3 (by rw [HXL.out]; exact l3) HY3.out;clear hf he1 he2 he3;obtain ⟨b00, b01⟩ := b0;obtain ⟨b10, b11⟩ := b1;obtain ⟨b20, b21⟩ := b2;obtain ⟨b30, b31⟩ := b3
                  go_region_held3 (fun w' => w'.cell? ⟨gy, f, none⟩ = some (.int .u8 y0) ∧ w'.cell? ⟨gy, e1, none⟩ = some (.int .u8 y1) ∧ w'.cell? ⟨gy, e2, none⟩ = some (.int .u8 y2) ∧ w'.cell? ⟨gy, e3, none⟩ = some (.int .u8 y3)) (simp [go_sem, World.cell?_alloc_lt, *]) (fail)
                  go_wp2_with fail
                  go_meet
                  refine ⟨[y0, y1, y2, y3], rfl, rfl, fun k hk => ?_, (Blk.new wv 97 (u8s [y0, y1, y2, y3])).drew, ((Below.refl _ _).alloc (Nat.le_refl _) _).drew⟩;obtain ⟨hf, he1, he2, he3⟩ := HF.out
                  rcases show k = 0 ∨ k = 1 ∨ k = 2 ∨ k = 3 by omega with rfl | rfl | rfl | rfl
                  · rw [show 4 * c + 0 = f by omega, HB0.out]; rfl
                  · rw [show 4 * c + 1 = e1 by omega, HB1.out]; rfl
                  · rw [show 4 * c + 2 = e2 by omega, HB2.out]; rfl
                  · rw [show 4 * c + 3 = e3 by omega, HB3.out]; rfl
                case rest =>
                 obtain ⟨a4, rfl, ha4l, ha4, b4, hb4⟩ := hcut;have HA4L := hide ha4l;have HA4 := hide ha4;have B4 := hide b4;have BYc := hide (BY.out.below hb4 hyl);have HBYc := hide (HBY.out.trans (hb4.mono hgyv));have hb4lt := b4.lt;obtain ⟨ga, HGA⟩ : ∃ x, Hid (wv.heap.size = x) := ⟨_, hide rfl⟩;rw [HGA.out] at B4 hb4lt hyl hgyv;rw [HGA.out];clear ha4l ha4 b4 hb4 BY HBY
                 go_wp2_with fail
                 go_loopw [15] (fun vi wq => ∃ (i : Nat) (xs : List Int), i ≤ 4 ∧ vi = .int .i64 i ∧ xs.length = 16 ∧ (∀ j, j < 16 → xs.getD j 0 = if j < 4 * c + i then mixAt B j else B.getD j 0) ∧ Blk wq gy 22 (u8s xs) ∧ Blk wq ga 97 (u8s a4) ∧ Below gy wo wq) (fun vi _ => 4 - (intOf vi).toNat)
                 case atStart => exact ⟨0, xs, by omega, rfl, HXL.out, HX.out, BYc.out, B4.out, HBYc.out⟩
                 case round =>
                  clear HX HXL BYc B4 HBYc;obtain ⟨i, xs, hi, rfl, hl, hx, by', b4, hbel⟩ := hrel;have HXL := hide hl;have HX := hide hx
                  have BY := hide by'
                  have B4 := hide b4;have HBY := hide hbel
                  clear hl hx by' b4 hbel
                  by_cases hit : i < 4
                  · skip
                    as_aux_lemma =>
                     have hit' : (i : Int) < 4 := by omega
                     obtain ⟨f, hf⟩ : ∃ f, 4 * c = f := ⟨_, rfl⟩;obtain ⟨e, he⟩ : ∃ e, f + i = e := ⟨_, rfl⟩;obtain ⟨j1, hj1⟩ : ∃ j, (i + 1) % 4 = j := ⟨_, rfl⟩;obtain ⟨j2, hj2⟩ : ∃ j, (i + 2) % 4 = j := ⟨_, rfl⟩;obtain ⟨j3, hj3⟩ : ∃ j, (i + 3) % 4 = j := ⟨_, rfl⟩
                     have w1 : IntKind.i64.wrap (4 * (c : Int)) = (f : Int) := by rw [IntWalk.i64_in _ (by omega)]; omega
                     have w2 : IntKind.i64.wrap ((f : Int) + (i : Int)) = (e : Int) := by rw [IntWalk.i64_in _ (by omega)]; omega
                     have w3 : IntKind.i64.wrap ((i : Int) + 1) = (i : Int) + 1 := IntWalk.i64_in _ (by omega);have w4 : IntKind.i64.wrap ((i : Int) + 2) = (i : Int) + 2 := IntWalk.i64_in _ (by omega);have w5 : IntKind.i64.wrap ((i : Int) + 3) = (i : Int) + 3 := IntWalk.i64_in _ (by omega)
                     have t1 : ((i : Int) + 1).tmod 4 = (j1 : Int) := by rw [Int.tmod_eq_emod_of_nonneg (by omega)]; omega
                     have t2 : ((i : Int) + 2).tmod 4 = (j2 : Int) := by rw [Int.tmod_eq_emod_of_nonneg (by omega)]; omega
                     have t3 : ((i : Int) + 3).tmod 4 = (j3 : Int) := by rw [Int.tmod_eq_emod_of_nonneg (by omega)]; omega
                     have l1 : (j1 : Int) < 4 := by omega
                     have l2 : (j2 : Int) < 4 := by omega
                     have l3 : (j3 : Int) < 4 := by omega
                     have k1 : (0 : Int) ≤ (j1 : Int) := by omega
                     have k2 : (0 : Int) ≤ (j2 : Int) := by omega
                     have k3 : (0 : Int) ≤ (j3 : Int) := by omega
                     have k0 : (0 : Int) ≤ (i : Int) := by omega
                     have n1 : j1 < 4 := by omega
                     have n2 : j2 < 4 := by omega
                     have n3 : j3 < 4 := by omega
                     have HE := hide (show 4 * c + i = e by omega);have HJ := hide (And.intro hj1 (And.intro hj2 hj3))
                     have e0 : (0 : Int) ≤ (e : Int) := by omega
                     have e1 : (e : Int) < 16 := by omega
                     have e2 : e < 16 := by omega
                     obtain ⟨x0, HX0⟩ : ∃ x, Hid (a4.getD i 0 = x) := ⟨_, hide rfl⟩;obtain ⟨x1, HX1⟩ : ∃ x, Hid (a4.getD j1 0 = x) := ⟨_, hide rfl⟩;obtain ⟨x2, HX2⟩ : ∃ x, Hid (a4.getD j2 0 = x) := ⟨_, hide rfl⟩;obtain ⟨x3, HX3⟩ : ∃ x, Hid (a4.getD j3 0 = x) := ⟨_, hide rfl⟩;have c0 := blk_get B4.out i x0 (by rw [HA4L.out]; exact hit) HX0.out;have c1 := blk_get B4.out j1 x1 (by rw [HA4L.out]; exact n1) HX1.out;have c2 := blk_get B4.out j2 x2 (by rw [HA4L.out]; exact n2) HX2.out;have c3 := blk_get B4.out j3 x3 (by rw [HA4L.out]; exact n3) HX3.out
                     have HM := hide (show mixAt B (4 * c + i) = X8 (X8 (X8 (X8 (tw x0) (tw x1)) x1) x2) x3 by
                      rw [mixAt_four B c i hit, hj1, hj2, hj3, ← HA4.out i hit, ← HA4.out j1 n1, ← HA4.out j2 n2, ← HA4.out j3 n3, HX0.out, HX1.out, HX2.out, HX3.out])
                     have y0 := HBB.out.getD (4 * c + i);have y1 := HBB.out.getD (4 * c + j1);rw [← HA4.out i hit, HX0.out] at y0;rw [← HA4.out j1 n1, HX1.out] at y1;obtain ⟨y00, y01⟩ := y0;obtain ⟨y10, y11⟩ := y1;obtain ⟨old, HOLD⟩ : ∃ x, Hid (xs.getD e 0 = x) := ⟨_, hide rfl⟩;have d3 := blk_get BY.out e old (by rw [HXL.out]; omega) HOLD.out;have f3 := BY.out.frozen e;clear hf he hj1 hj2 hj3
                     go_wp2_with fail
                     go_still_tail 34, (by kernel_rfl)
                     still_call ((twice_ref x0 _ y00 y01).mono fun _ _ h => ⟨h.1, h.2.symm⟩)
                     repeat still_step
                     still_call ((twice_ref x1 _ y10 y11).mono fun _ _ h => ⟨h.1, h.2.symm⟩)
                     repeat still_step
                     refine wpStill_nil ?_
                     change wpList _ _ _ _ _ wr.drew
                     clear w1 w2 w3 w4 w5 t1 t2 t3
                     go_wp2_with fail
                     go_roundw
                     case measure => simp [intOf]; omega
                     case rel =>
                      have e1 : (i : Int) + 1 = ((i + 1 : Nat) : Int) := by omega
                      refine ⟨i + 1, xs.set e (X8 (X8 (X8 (X8 (tw x0) (tw x1)) x1) x2) x3), by omega, by rw [e1], by simpa using HXL.out, ?_, blk_set BY.out.drew e _, B4.out.drew.far (p := ⟨gy, e, none⟩) (by simp; omega) _, HBY.out.drew.setCell (p := ⟨gy, e, none⟩) (Nat.le_refl _) _⟩;have := upto_set (k := e) HXL.out e2 (by rw [← HE.out]; exact HX.out) _ (by rw [← HE.out, HM.out]);rw [show 4 * c + (i + 1) = e + 1 by rw [← HE.out]; omega]
                      exact this
                  · have HI4 := hide (show 4 * c + i = 4 * (c + 1) by omega)
                    have HC1 := hide (show (c : Int) + 1 = ((c + 1 : Nat) : Int) by omega)
                    go_wp2_with fail
                    go_roundw
                    case measure => simp [intOf]; omega
                    case rel => exact ⟨c + 1, xs, by omega, by rw [HC1.out], HXL.out, by rw [← HI4.out]; exact HX.out, BY.out, HBY.out⟩
              · have HXC := hide (show xs = columnsF B from ext_getD (by rw [HXL.out, columnsF_len]) fun k hk => by rw [HXL.out] at hk; rw [HX.out k hk, if_pos (by omega), columnsF_get B k hk])
                go_wp2_with fail
                go_meet
                exact ⟨by rw [HMid.out, ← HXC.out]; exact BY.out, HBY.out⟩
           · have h9' : ¬ (r : Int) + 1 < 10 := by omega
             go_wp2_with fail
             go_meet
             exact ⟨by rw [midF, if_neg h9, HBs.out, ← HXS.out]; exact BY.out, HBY.out⟩
          case rest =>
           obtain ⟨bm, hbm⟩ := hcut;have HML := hide (midF_len T A (r + 1));obtain ⟨M, HM⟩ : ∃ x, Hid (midF T A (r + 1) = x) := ⟨_, hide rfl⟩;rw [HM.out] at bm HML HN;have HRL := hide (rowAt_len HK.out (r + 1) (by omega));have BM := hide bm;have KBc := hide (KB.out.below hbm hky);have BXc := hide (BX.out.below hbm hgy);have BOc := hide (BO.out.below hbm hoy);have HBc := hide (HBW.out.trans (hbm.mono (by omega)));have hmc := bm.lt;have hkc := KBc.out.lt;have hgc := BXc.out.lt;have hoc := BOc.out.lt;have hgg := HG.out;clear bm hbm
           go_wp2_with fail
           go_loopw [16, 127] (fun _ vi wq => ∃ (i : Nat) (xs : List Int), i ≤ 16 ∧ vi = .int .i64 i ∧ xs.length = 16 ∧ (∀ j, j < 16 → xs.getD j 0 = if j < i then X8 (M.getD j 0) ((rowAt ks (r + 1)).getD j 0) else A.getD j 0) ∧ Blk wq gx 22 (u8s xs) ∧ wc.grownBy wq (some gx)) (fun _ vi _ => 16 - (intOf vi).toNat)
           case atStart => exact ⟨0, A, by omega, rfl, HAL.out, upto_zero fun j _ => rfl, BXc.out, World.grownBy.refl _ _⟩
           case round =>
            as_aux_lemma =>
             clear BXc;obtain ⟨i, xs, hi, rfl, hl, hx, bx, hgr⟩ := hrel;have HXL := hide hl;have HX := hide hx;have BXq := hide bx;have HGR := hide hgr;have BMq := hide (BM.out.grown hgr (by simp; omega));have KBq := hide (KBc.out.grown hgr (by simp; omega));clear hl hx bx hgr
             by_cases hit : i < 16
             · have i0 : (0 : Int) ≤ (i : Int) := by omega
               have i1 : (i : Int) < 16 := by omega
               have r0 : (0 : Int) ≤ (r : Int) + 1 := by omega
               have r1 : (r : Int) + 1 < 11 := by omega
               obtain ⟨x, HXi⟩ : ∃ x, Hid (M.getD i 0 = x) := ⟨_, hide rfl⟩;obtain ⟨k, HKi⟩ : ∃ x, Hid (ks.getD ((r + 1) * 16 + i) 0 = x) := ⟨_, hide rfl⟩;obtain ⟨old, HOLD⟩ : ∃ x, Hid (xs.getD i 0 = x) := ⟨_, hide rfl⟩;have c1 := blk_get BMq.out i x (by rw [HML.out]; exact hit) HXi.out;have c2 := blk_get KBq.out ((r + 1) * 16 + i) k (by rw [HK.out]; omega) HKi.out;have c3 := blk_get BXq.out i old (by rw [HXL.out]; exact hit) HOLD.out;have f3 := BXq.out.frozen i
               go_wp2_with fail
               go_region
               all_goals
                go_wp2_with fail
                go_roundw
                case measure => simp [intOf]; omega
                case rel =>
                 have e1 : (i : Int) + 1 = ((i + 1 : Nat) : Int) := by omega
                 refine ⟨i + 1, xs.set i (X8 x k), by omega, by rw [e1], by simpa using HXL.out, upto_set HXL.out hit HX.out _ (by rw [rowAt_get (r + 1) i hit, HXi.out, HKi.out]), (blk_set BXq.out i _).drew, grown_drew (grown_set HGR.out _ _)⟩
             · have HXN := hide (show xs = blockR T ks inp (r + 1) from ext_getD (by rw [HXL.out, HN.out]; exact (xorF_len _ _ HML.out HRL.out).symm) fun j hj => by
                rw [HXL.out] at hj;rw [HX.out j hj, if_pos (by omega), HN.out]
                exact (xorF_get M (rowAt ks (r + 1)) j (by rw [HML.out]; exact hj) (by rw [HRL.out]; exact hj)).symm)
               have HE1 := hide (show (r : Int) + 1 + 1 = ((r + 1 + 1 : Nat) : Int) by omega);have HBf := hide (HBc.out.grown HGR.out HBc.out.size (by intro k hk; simp at hk; omega));have BOf := hide (BOc.out.grown HGR.out (by simp; omega));clear HN HX
               go_wp2_with fail
               go_roundw
               case measure => simp [intOf]; omega
               case rel => exact ⟨r + 1, by omega, by rw [HE1.out], by rw [← HXN.out]; exact BXq.out, BOf.out, HBf.out⟩
     · have HR := hide (show r = 10 by omega)
       have HIA := hide (show (Tryz.prog.info? 22).map (·.size) = some (u8s A).length by rw [u8s_len, HAL.out]; exact size16);have HF := hide (show RES = A by rw [← HRES.out, blockF, ← HA.out, HR.out]);clear HR HA
       go_wp2_with (first | (refine wpList_load_blk rfl 22 _ rfl _ rfl _ _ BX.out 16 5 rfl HIA.out ?_) | (refine wpList_store_blk rfl 22 _ _ rfl _ 0 (u8s A) rfl rfl _ _ BO.out (by rw [u8s_len, u8s_len, HAL.out]; simp) HIA.out (u8s_one _) ?_; intro w3 hB hg3 hs3; rw [lset_all _ _ (by rw [u8s_len, u8s_len, HAL.out]; simp)] at hB) | (exact bodyPost_ret (v := .agg (u8s A).toArray) (results_cell_row rfl _ _ (w.heap.size + 1) 22 _ (0, 0) _ rfl hB rfl rfl (by simpa using HIA.out)) rfl ⟨by rw [HF.out], HBW.out.grown hg3 HBW.out.size (by intro k hk; simp at hk; omega)⟩))
end Go.Proofs.YthdjgebbjogmiaaGreatDoor
