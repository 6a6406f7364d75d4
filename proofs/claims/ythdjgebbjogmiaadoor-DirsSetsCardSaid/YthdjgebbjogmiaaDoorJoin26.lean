/- A number as so many bytes: the plain law.
aumbryref01.Put, walked.
code.Put, walked. No condition. -/
import Derived.Test.YthdjgebbjogmiaaDoorJoin1
import Derived.Deep.DeepCutAuto
import Derived.Deep.CutRange
import Derived.LoopIn
set_option linter.unusedVariables false
set_option linter.unusedSimpArgs false
namespace Go.Proofs.YthdjgebbjogmiaaDoor
open Go Go.RowKit
set_option maxRecDepth 100000

def putN (N W : Nat) : List Int := (List.range W).map fun j => ((N / 256 ^ (W - 1 - j) % 256 : Nat) : Int)
def wid (width : Int) : Nat := (min (max width 0) 8).toNat
def putF (n width : Int) : List Int := putN (max 0 n).toNat (wid width)
theorem putN_len (N W : Nat) : (putN N W).length = W := by simp [putN]
theorem putN_get (N W j : Nat) (hj : j < W) : (putN N W).getD j 0 = ((N / 256 ^ (W - 1 - j) % 256 : Nat) : Int) := by
 rw [List.getD_eq_getElem?_getD, List.getElem?_eq_getElem (by rw [putN_len]; exact hj)]
 simp [putN]
theorem putN_bytes (N W : Nat) : Bytes (putN N W) := fun x hx => by
 obtain ⟨j, _, rfl⟩ := List.mem_map.1 hx
 have := Nat.mod_lt (N / 256 ^ (W - 1 - j)) (show 0 < 256 by omega)
 omega
theorem wid_le (width : Int) : wid width ≤ 8 := by unfold wid; omega
theorem putF_bytes (n width : Int) : Bytes (putF n width) := putN_bytes _ _
end Go.Proofs.YthdjgebbjogmiaaDoor

namespace Go.Proofs.YthdjgebbjogmiaaDoor
open Go Go.RowKit
set_option maxRecDepth 100000

theorem rep_getD0 (n j : Nat) : (List.replicate n (0 : Int)).getD j 0 = 0 := by
 rw [List.getD_eq_getElem?_getD, List.getElem?_replicate]; split <;> rfl
theorem getD_setP (l : List Int) (i j : Nat) (a : Int) (h : i < l.length) : (l.set i a).getD j 0 = if i = j then a else l.getD j 0 := by
 rw [List.getD_eq_getElem?_getD, List.getElem?_set, List.getD_eq_getElem?_getD]
 split
 · rename_i e; subst e; simp [h]
 · rfl
theorem ext_getP {xs ys : List Int} (hl : xs.length = ys.length) (h : ∀ j, j < xs.length → xs.getD j 0 = ys.getD j 0) : xs = ys :=
 List.ext_getElem hl fun j h1 h2 => by
  have := h j h1
  rwa [List.getD_eq_getElem?_getD, List.getD_eq_getElem?_getD, List.getElem?_eq_getElem h1, List.getElem?_eq_getElem h2] at this

set_option maxHeartbeats 2000000 in
theorem Put_ref (n width : Int) (w : World) (hn : -9223372036854775808 ≤ n ∧ n ≤ 9223372036854775807) (hw : -9223372036854775808 ≤ width ∧ width ≤ 9223372036854775807) :
 Calls Tryd.prog 80 #[.int .i64 n, .int .i64 width] w fun e w' => ∃ v', e = .returned v' ∧ Own8 w' w.heap.size v' (putF n width) ∧ Below w.heap.size w w' := by
 obtain ⟨N, HN⟩ : ∃ N, Hid ((max 0 n).toNat = N) := ⟨_, hide rfl⟩
 obtain ⟨W, HW⟩ : ∃ W, Hid (wid width = W) := ⟨_, hide rfl⟩
 have hW8 : W ≤ 8 := by rw [← HW.out]; exact wid_le _
 have HW2 := hide (show min (max width 0) 8 = (W : Int) by rw [← HW.out]; unfold wid; omega)
 have HN2 := hide (show max 0 n = (N : Int) by rw [← HN.out]; omega)
 have hN : (N : Int) ≤ 9223372036854775807 := by rw [← HN2.out]; omega
 unfold putF
 rw [HN.out, HW.out]
 obtain ⟨RES, HRES⟩ : ∃ x, Hid (putN N W = x) := ⟨_, hide rfl⟩
 rw [HRES.out]
 obtain ⟨hn1, hn2⟩ := hn
 obtain ⟨hw1, hw2⟩ := hw
 clear HN HW
 go_enter Tryd.func80, Tryd.ntmps80
 go_upto_if 8 with fail
 go_cut [0] (fun v0 wx => v0 = .int .i64 (N : Int) ∧ w = wx)
 case first =>
  go_wp2_with fail
  all_goals
   go_meet
   exact ⟨by have h := HN2.out; refine congrArg (Value.int .i64) ?_; omega, rfl⟩
 case rest =>
 obtain ⟨rfl, rfl⟩ := hcut
 go_upto_region 3 with fail
 go_cut [1] (fun v1 wx => v1 = .int .i64 (W : Int) ∧ w = wx)
 case first =>
  go_wp2_with fail
  all_goals
   go_meet
   exact ⟨by have h := HW2.out; refine congrArg (Value.int .i64) ?_; omega, rfl⟩
 case rest =>
 obtain ⟨rfl, rfl⟩ := hcut
 go_wp2_with (refine wpList_make_bytes rfl _ _ rfl .i64 .i64 W W rfl rfl (Nat.le_refl _) (by omega) ?_; intro w1 b1 hb1 hs1; have B1 := hide b1; have HB1 := hide hb1; clear b1 hb1 hs1)
 go_loopw [0, 6] (fun vn vi wr => ∃ (k : Nat) (xs : List Int), k ≤ W ∧ vi = .int .i64 ((W : Int) - 1 - (k : Int)) ∧ vn = .int .i64 ((N / 256 ^ k : Nat) : Int) ∧ xs.length = W ∧ (∀ j, j < W → xs.getD j 0 = if W ≤ j + k then ((N / 256 ^ (W - 1 - j) % 256 : Nat) : Int) else 0) ∧ Blk wr w.heap.size 5 (u8s xs) ∧ Below w.heap.size w wr) (fun _ vi _ => (intOf vi + 1).toNat)
 case atStart => exact ⟨0, List.replicate W 0, by omega, by simp, by simp, by simp, fun j hj => by rw [if_neg (by omega), rep_getD0], B1.out, HB1.out⟩
 case round =>
  clear B1 HB1
  obtain ⟨k, xs, hk, rfl, rfl, hl, hx, bx, hbel⟩ := hrel
  have HXL := hide hl
  have HX := hide hx
  have BX := hide bx
  have HBW := hide hbel
  clear hl hx bx hbel
  obtain ⟨m, HM⟩ : ∃ m, Hid (N / 256 ^ k = m) := ⟨_, hide rfl⟩
  have hmN : (m : Int) ≤ 9223372036854775807 := by
   have h1 : m ≤ N := by rw [← HM.out]; exact Nat.div_le_self _ _
   omega
  rw [HM.out]
  by_cases hkt : k < W
  · obtain ⟨jn, hjn⟩ : ∃ j, W - 1 - k = j := ⟨_, rfl⟩
    have ej : (W : Int) - 1 - (k : Int) = (jn : Int) := by omega
    have j0 : (0 : Int) ≤ (jn : Int) := by omega
    have j1 : (jn : Int) < (W : Int) := by omega
    have j2 : jn < W := by omega
    have HEJ := hide (show (jn : Int) - 1 = (W : Int) - 1 - ((k + 1 : Nat) : Int) by omega)
    have HKJ := hide (show jn + k = W - 1 by omega)
    have m0 : (0 : Int) ≤ (m : Int) := by omega
    rw [ej]
    obtain ⟨old, HOLD⟩ : ∃ x, Hid (xs.getD jn 0 = x) := ⟨_, hide rfl⟩
    have c3 := blk_get BX.out jn old (by rw [HXL.out]; exact j2) HOLD.out
    have f3 := BX.out.frozen jn
    clear ej hjn
    go_wp2_with fail
    go_roundw
    case measure => simp [intOf] <;> omega
    case rel =>
     refine ⟨k + 1, xs.set jn ((m : Int) % 256), by omega, by rw [HEJ.out], ?_, by simpa using HXL.out, fun j hj => ?_, ?_, HBW.out.setCell (p := ⟨w.heap.size, jn, none⟩) (Nat.le_refl _) _⟩
     · rw [Nat.pow_succ, ← Nat.div_div_eq_div_mul, HM.out]; refine congrArg (Value.int .i64) ?_; omega
     · have hkj := HKJ.out
       rw [getD_setP _ _ _ _ (by rw [HXL.out]; exact j2)]
       by_cases e : jn = j
       · subst e
         rw [if_pos rfl, if_pos (by omega), show W - 1 - jn = k by omega, HM.out]; omega
       · rw [if_neg e, HX.out j hj]
         by_cases h1 : W ≤ j + k
         · rw [if_pos h1, if_pos (by omega)]
         · rw [if_neg h1, if_neg (by omega)]
     · have := blk_set BX.out jn ((m : Int) % 256)
       first | exact this | (simpa using this)
  · have HR := hide (show xs = RES from ext_getP (by rw [HXL.out, ← HRES.out, putN_len]) fun j hj => by rw [HXL.out] at hj; rw [HX.out j hj, if_pos (by omega), ← HRES.out, putN_get N W j hj])
    have hk15 : ¬ (0 : Int) ≤ (W : Int) - 1 - (k : Int) := by omega
    have HOWN := hide (show Own8 wr w.heap.size (.slice (some ⟨w.heap.size, 0, none⟩) W W) RES by
     have h1 : Blk wr w.heap.size 5 (u8s RES) := by rw [← HR.out]; exact BX.out
     have hl : RES.length = W := by rw [← HRES.out, putN_len]
     have h2 := Own8.of_blk (base := w.heap.size) h1 (Nat.le_refl _) (by rw [hl]; unfold maxLen; omega)
     rw [hl] at h2
     exact h2)
    clear HR HX HRES
    go_wp2_with fail
    go_ret
    exact ⟨_, rfl, HOWN.out, HBW.out⟩
end Go.Proofs.YthdjgebbjogmiaaDoor

namespace Go.Proofs.YthdjgebbjogmiaaDoor
open Go Go.RowKit
set_option maxRecDepth 100000

set_option maxHeartbeats 2000000 in
theorem Put_any (n width : Int) (w : World) (hn : -9223372036854775808 ≤ n ∧ n ≤ 9223372036854775807) (hw : -9223372036854775808 ≤ width ∧ width ≤ 9223372036854775807) :
 Calls Tryd.prog 110 #[.int .i64 n, .int .i64 width] w fun e w' => ∃ v', e = .returned v' ∧ Own8 w' w.heap.size v' (putF n width) ∧ Below w.heap.size w w' := by
 obtain ⟨N, HN⟩ : ∃ N, Hid ((max 0 n).toNat = N) := ⟨_, hide rfl⟩
 obtain ⟨W, HW⟩ : ∃ W, Hid (wid width = W) := ⟨_, hide rfl⟩
 have hW8 : W ≤ 8 := by rw [← HW.out]; exact wid_le _
 have HW2 := hide (show min (max width 0) 8 = (W : Int) by rw [← HW.out]; unfold wid; omega)
 have HN2 := hide (show max 0 n = (N : Int) by rw [← HN.out]; omega)
 have hN : (N : Int) ≤ 9223372036854775807 := by rw [← HN2.out]; omega
 unfold putF
 rw [HN.out, HW.out]
 obtain ⟨RES, HRES⟩ : ∃ x, Hid (putN N W = x) := ⟨_, hide rfl⟩
 rw [HRES.out]
 obtain ⟨hn1, hn2⟩ := hn
 obtain ⟨hw1, hw2⟩ := hw
 clear HN HW
 go_enter Tryd.func110, Tryd.ntmps110
 have HWE := hide (show (if (0 : Int) < (if (8 : Int) < width then 8 else width) then (if (8 : Int) < width then 8 else width) else 0) = (W : Int) by rw [← HW2.out]; split <;> (try split) <;> omega)
 go_upto_region 2 with (refine wpList_make_bytes rfl _ _ rfl .i64 .i64 W W (congrArg (Value.int .i64) HWE.out) (congrArg (Value.int .i64) HWE.out) (Nat.le_refl _) (by omega) ?_; intro w1 b1 hb1 hs1; have B1 := hide b1; have HB1 := hide hb1; clear b1 hb1 hs1)
 rw [HWE.out]
 clear HWE
 generalize (if (8 : Int) < width then (8 : Int) else width) = s9
 go_cut [6] from 12 to 14 (fun v6 wx => v6 = .int .u64 (N : Int) ∧ w1 = wx)
 case first =>
  go_wp2_with fail
  all_goals
   go_meet
   exact ⟨by have h := HN2.out; refine congrArg (Value.int .u64) ?_; (try split) <;> omega, rfl⟩
 case rest =>
 obtain ⟨rfl, rfl⟩ := hcut
 go_wp2_with fail
 go_loopw [6, 7] (fun vn vi wr => ∃ (k : Nat) (xs : List Int), k ≤ W ∧ vi = .int .i64 ((W : Int) - 1 - (k : Int)) ∧ vn = .int .u64 ((N / 256 ^ k : Nat) : Int) ∧ xs.length = W ∧ (∀ j, j < W → xs.getD j 0 = if W ≤ j + k then ((N / 256 ^ (W - 1 - j) % 256 : Nat) : Int) else 0) ∧ Blk wr w.heap.size 5 (u8s xs) ∧ Below w.heap.size w wr) (fun _ vi _ => (intOf vi + 1).toNat)
 case atStart => exact ⟨0, List.replicate W 0, by omega, by simp, by simp, by simp, fun j hj => by rw [if_neg (by omega), rep_getD0], B1.out, HB1.out⟩
 case round =>
  clear B1 HB1
  obtain ⟨k, xs, hk, rfl, rfl, hl, hx, bx, hbel⟩ := hrel
  have HXL := hide hl
  have HX := hide hx
  have BX := hide bx
  have HBW := hide hbel
  clear hl hx bx hbel
  obtain ⟨m, HM⟩ : ∃ m, Hid (N / 256 ^ k = m) := ⟨_, hide rfl⟩
  have hmN : (m : Int) ≤ 9223372036854775807 := by
   have h1 : m ≤ N := by rw [← HM.out]; exact Nat.div_le_self _ _
   omega
  rw [HM.out]
  by_cases hkt : k < W
  · obtain ⟨jn, hjn⟩ : ∃ j, W - 1 - k = j := ⟨_, rfl⟩
    have ej : (W : Int) - 1 - (k : Int) = (jn : Int) := by omega
    have j0 : (0 : Int) ≤ (jn : Int) := by omega
    have j1 : (jn : Int) < (W : Int) := by omega
    have j2 : jn < W := by omega
    have HEJ := hide (show (jn : Int) - 1 = (W : Int) - 1 - ((k + 1 : Nat) : Int) by omega)
    have HKJ := hide (show jn + k = W - 1 by omega)
    have m0 : (0 : Int) ≤ (m : Int) := by omega
    rw [ej]
    obtain ⟨old, HOLD⟩ : ∃ x, Hid (xs.getD jn 0 = x) := ⟨_, hide rfl⟩
    have c3 := blk_get BX.out jn old (by rw [HXL.out]; exact j2) HOLD.out
    have f3 := BX.out.frozen jn
    clear ej hjn
    go_wp2_with fail
    go_roundw
    case measure => simp [intOf] <;> omega
    case rel =>
     refine ⟨k + 1, xs.set jn ((m : Int) % 256), by omega, by rw [HEJ.out], ?_, by simpa using HXL.out, fun j hj => ?_, ?_, HBW.out.setCell (p := ⟨w.heap.size, jn, none⟩) (Nat.le_refl _) _⟩
     · rw [Nat.pow_succ, ← Nat.div_div_eq_div_mul, HM.out]; refine congrArg (Value.int .u64) ?_; omega
     · have hkj := HKJ.out
       rw [getD_setP _ _ _ _ (by rw [HXL.out]; exact j2)]
       by_cases e : jn = j
       · subst e
         rw [if_pos rfl, if_pos (by omega), show W - 1 - jn = k by omega, HM.out]; omega
       · rw [if_neg e, HX.out j hj]
         by_cases h1 : W ≤ j + k
         · rw [if_pos h1, if_pos (by omega)]
         · rw [if_neg h1, if_neg (by omega)]
     · have := blk_set BX.out jn ((m : Int) % 256)
       first | exact this | (simpa using this)
  · have HR := hide (show xs = RES from ext_getP (by rw [HXL.out, ← HRES.out, putN_len]) fun j hj => by rw [HXL.out] at hj; rw [HX.out j hj, if_pos (by omega), ← HRES.out, putN_get N W j hj])
    have hk15 : ¬ (0 : Int) ≤ (W : Int) - 1 - (k : Int) := by omega
    have HOWN := hide (show Own8 wr w.heap.size (.slice (some ⟨w.heap.size, 0, none⟩) W W) RES by
     have h1 : Blk wr w.heap.size 5 (u8s RES) := by rw [← HR.out]; exact BX.out
     have hl : RES.length = W := by rw [← HRES.out, putN_len]
     have h2 := Own8.of_blk (base := w.heap.size) h1 (Nat.le_refl _) (by rw [hl]; unfold maxLen; omega)
     rw [hl] at h2
     exact h2)
    clear HR HX HRES
    go_wp2_with fail
    go_ret
    exact ⟨_, rfl, HOWN.out, HBW.out⟩
end Go.Proofs.YthdjgebbjogmiaaDoor
