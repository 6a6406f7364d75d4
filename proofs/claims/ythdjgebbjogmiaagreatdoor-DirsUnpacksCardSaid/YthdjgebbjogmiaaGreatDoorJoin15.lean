/- aes.box: the table of bytes, walked.
ref.boxes: walked.
The two tables are one; all its entries are bytes; no two agree.
aes.Block, aes.Expand, and the references' twins: walked. -/
import Derived.Test.YthdjgebbjogmiaaGreatDoorJoin12
import Derived.Deep.LoopGhost
import Derived.LoopIn
import Derived.Test.YthdjgebbjogmiaaGreatDoorJoin13
import Derived.Test.YthdjgebbjogmiaaGreatDoorAesRefBlk
import Derived.Test.YthdjgebbjogmiaaGreatDoorJoin14
set_option linter.unusedVariables false
set_option linter.unusedSimpArgs false
namespace Go.Proofs.YthdjgebbjogmiaaGreatDoor
open Go Go.RowKit
set_option maxRecDepth 100000
set_option maxRecDepth 100000 in
set_option maxHeartbeats 4000000 in
theorem box_any (w : World) : Calls Tryz.prog 77 #[] w fun e w' => e = .returned (.agg (u8s boxTab).toArray) ∧ Below w.heap.size w w' := by
 obtain ⟨T, HT⟩ : ∃ T, Hid (boxTab = T) := ⟨_, hide rfl⟩;have HTL := hide (show T.length = 256 by rw [← HT.out]; exact boxTab_len);rw [HT.out]
 go_enter Tryz.func77, Tryz.ntmps77
 have tokA : True := trivial;have tokB : True := trivial
 go_wp2_with (first | (have tokA2 := tokA; refine wpList_alloc_blk rfl 82 rfl _ zero256 ?_; intro w1 b1 hb1 hs1; clear tokA tokA2) | (have tokB2 := tokB; refine wpList_alloc_blk rfl 82 rfl _ zero256 ?_; intro w2 b2 hb2 hs2; clear tokB tokB2))
 have B1 := hide (b1.below hb2 (by omega));have B2 := hide (show Blk w2 (w.heap.size + 1) 82 (u8s (List.replicate 256 0)) by rw [← hs1]; exact b2);have HB := hide (hb1.trans (hb2.mono (by omega)))
 have hs : w2.heap.size = w.heap.size + 2 := by omega
 have HS := hide hs;clear b1 b2 hb1 hb2 hs1 hs2 hs
 go_loopg [2, 3, 4] 255 (fun g vp vq _ wr => ∃ k : Nat, g + k = 255 ∧ k ≤ 254 ∧ vp = .int .u8 (boxS k).1 ∧ vq = .int .u8 (boxS k).2.1 ∧ Blk wr w.heap.size 82 (u8s (List.replicate 256 0)) ∧ Blk wr (w.heap.size + 1) 82 (u8s (boxS k).2.2) ∧ Below w.heap.size w wr)
 case atStart => exact ⟨0, rfl, by omega, rfl, rfl, B1.out, B2.out, HB.out⟩
 case round =>
  clear B1 B2 HB HS;obtain ⟨k, hg, hk, rfl, rfl, b1, b2, hb⟩ := hrel;have B1 := hide b1;have HB := hide hb;obtain ⟨⟨p0, p1⟩, ⟨q0, q1⟩, ol⟩ := boxS_ok k;have HN := hide (show boxS (k + 1) = boxStep (boxS k) from rfl);have HLast := hide (box_last k hk);obtain ⟨p, HP⟩ : ∃ p, Hid ((boxS k).1 = p) := ⟨_, hide rfl⟩;obtain ⟨q, HQ⟩ : ∃ q, Hid ((boxS k).2.1 = q) := ⟨_, hide rfl⟩;obtain ⟨out, HO⟩ : ∃ out, Hid ((boxS k).2.2 = out) := ⟨_, hide rfl⟩;rw [HP.out] at p0 p1;rw [HQ.out] at q0 q1;rw [HO.out] at ol b2;have B2 := hide b2;have HOL := hide ol;have HG := hide hg;have HP' := HP.out;have HQ' := HQ.out;rw [HP', HQ'];clear b1 b2 hb ol hg HP' HQ';obtain ⟨pn, hpn⟩ : ∃ x, bits .xor .u8 p (tw p) = x := ⟨_, rfl⟩
  have hpp : 0 ≤ pn ∧ pn < 256 := by rw [← hpn]; exact boxP_byte ⟨p0, p1⟩
  obtain ⟨q1', hq1⟩ : ∃ x, bits .xor .u8 q (q * 2 % 256) = x := ⟨_, rfl⟩
  have k1 : 0 ≤ q1' ∧ q1' < 256 := by rw [← hq1]; exact x8_byte ⟨q0, q1⟩ (by omega)
  obtain ⟨q2, hq2⟩ : ∃ x, bits .xor .u8 q1' (q1' * 4 % 256) = x := ⟨_, rfl⟩
  have k2 : 0 ≤ q2 ∧ q2 < 256 := by rw [← hq2]; exact x8_byte k1 (by omega)
  obtain ⟨q3, hq3⟩ : ∃ x, bits .xor .u8 q2 (q2 * 16 % 256) = x := ⟨_, rfl⟩
  have k3 : 0 ≤ q3 ∧ q3 < 256 := by rw [← hq3]; exact x8_byte k2 (by omega)
  have HQ3 := hide (show boxQ q = boxQ4 q3 by unfold boxQ boxQ3 boxQ2 boxQ1 X8; rw [hq1, hq2, hq3]);obtain ⟨q4, HQ4⟩ : ∃ x, Hid (boxQ4 q3 = x) := ⟨_, hide rfl⟩
  have k4 : 0 ≤ q4 ∧ q4 < 256 := by rw [← HQ4.out]; exact boxQ4_byte k3
  obtain ⟨y1, hy1⟩ : ∃ x, bits .xor .u8 q4 (rot1 q4) = x := ⟨_, rfl⟩;obtain ⟨y2, hy2⟩ : ∃ x, bits .xor .u8 y1 (rot2 q4) = x := ⟨_, rfl⟩;obtain ⟨y3, hy3⟩ : ∃ x, bits .xor .u8 y2 (rot3 q4) = x := ⟨_, rfl⟩;obtain ⟨y4, hy4⟩ : ∃ x, bits .xor .u8 y3 (rot4 q4) = x := ⟨_, rfl⟩;obtain ⟨y5, hy5⟩ : ∃ x, bits .xor .u8 y4 99 = x := ⟨_, rfl⟩;have HY := hide (show boxX q4 = y5 by unfold boxX X8; rw [hy1, hy2, hy3, hy4, hy5]);have HPn := hide (show boxP p = pn from hpn);obtain ⟨pp0, pp1⟩ := hpp;obtain ⟨k40, k41⟩ := k4
  obtain ⟨old, hold⟩ : ∃ old, wr.cell? ⟨w.heap.size + 1, pn.toNat, none⟩ = some old := by
   have := blk_u8 B2.out pn.toNat (by rw [HOL.out]; omega);exact ⟨_, this⟩
  have hf := B2.out.frozen pn.toNat
  have HNew := hide (show boxS (k + 1) = (pn, q4, out.set pn.toNat y5) by
   rw [HN.out]
   show (boxP (boxS k).1, boxQ (boxS k).2.1, (boxS k).2.2.set (boxP (boxS k).1).toNat (boxX (boxQ (boxS k).2.1))) = _
   rw [HP.out, HQ.out, HO.out, HPn.out, HQ3.out, HQ4.out, HY.out])
  have hlast := HLast.out;rw [HNew.out] at hlast;have hlast2 : (pn == 1) = decide (k = 254) := hlast;clear k1 k2 k3
  have q4eq : q4 = if (bits .and .u8 q3 128 != 0) = true then bits .xor .u8 q3 9 else q3 := HQ4.out.symm
  have HLE := hide hlast2;clear hlast hlast2;obtain ⟨bt, hbt⟩ : ∃ bt, (bits .and .u8 q3 128 != 0) = bt := ⟨_, rfl⟩;rw [hbt] at q4eq;obtain ⟨bl, hbl⟩ : ∃ bl, (pn == 1) = bl := ⟨_, rfl⟩;have B2n := hide (show Blk (wr.setCell ⟨w.heap.size + 1, pn.toNat, none⟩ (.int .u8 y5)) (w.heap.size + 1) 82 (u8s (out.set pn.toNat y5)) from blk_set B2.out _ _);have B1n := hide (show Blk (wr.setCell ⟨w.heap.size + 1, pn.toNat, none⟩ (.int .u8 y5)) w.heap.size 82 (u8s (List.replicate 256 0)) from B1.out.far (p := ⟨w.heap.size + 1, pn.toNat, none⟩) (by simp) _);have HBn := hide (HB.out.setCell (p := ⟨w.heap.size + 1, pn.toNat, none⟩) (by simp) (.int .u8 y5));cases bl
  · cases bt
    · have q4e : q4 = q3 := by simpa using q4eq
      clear q4eq;subst q4e
      go_wp2_with fail
      refine (twice_any p _ p0 p1).mono ?_;rintro e w' ⟨rfl, rfl⟩
      go_wp2_with fail
      refine (rot1_any q4 _ k40 k41).mono ?_;rintro e w' ⟨rfl, rfl⟩
      go_wp2_with fail
      refine (rot2_any q4 _ k40 k41).mono ?_;rintro e w' ⟨rfl, rfl⟩
      go_wp2_with fail
      refine (rot3_any q4 _ k40 k41).mono ?_;rintro e w' ⟨rfl, rfl⟩
      go_wp2_with fail
      refine (rot4_any q4 _ k40 k41).mono ?_;rintro e w' ⟨rfl, rfl⟩
      go_wp2_with fail
      go_roundg (gk - 1)
      case measure => have := HG.out; omega
      case rel =>
       have hk' : k ≠ 254 := by have := HLE.out; rw [hbl] at this; simpa using this.symm
       refine ⟨k + 1, by have := HG.out; omega, by omega, by rw [HNew.out], by rw [HNew.out], B1n.out, by rw [HNew.out]; exact B2n.out, HBn.out⟩
    · have q4e : bits .xor .u8 q3 9 = q4 := by simpa using q4eq.symm
      clear q4eq
      go_wp2_with fail
      refine (twice_any p _ p0 p1).mono ?_;rintro e w' ⟨rfl, rfl⟩
      go_wp2_with fail
      refine (rot1_any q4 _ k40 k41).mono ?_;rintro e w' ⟨rfl, rfl⟩
      go_wp2_with fail
      refine (rot2_any q4 _ k40 k41).mono ?_;rintro e w' ⟨rfl, rfl⟩
      go_wp2_with fail
      refine (rot3_any q4 _ k40 k41).mono ?_;rintro e w' ⟨rfl, rfl⟩
      go_wp2_with fail
      refine (rot4_any q4 _ k40 k41).mono ?_;rintro e w' ⟨rfl, rfl⟩
      go_wp2_with fail
      go_roundg (gk - 1)
      case measure => have := HG.out; omega
      case rel =>
       have hk' : k ≠ 254 := by have := HLE.out; rw [hbl] at this; simpa using this.symm
       refine ⟨k + 1, by have := HG.out; omega, by omega, by rw [HNew.out], by rw [HNew.out], B1n.out, by rw [HNew.out]; exact B2n.out, HBn.out⟩
  · have hk' : k = 254 := by have := HLE.out; rw [hbl] at this; simpa using this.symm
    have hT : (out.set pn.toNat y5).set 0 99 = T := by rw [← HT.out]; unfold boxTab; subst hk'; rw [HNew.out]
    have hT' := blk_set B2n.out 0 99;rw [hT] at hT';have B2z := hide hT';have B1z := hide (B1n.out.far (p := ⟨w.heap.size + 1, 0, none⟩) (by simp) (.int .u8 99));have HBz := hide (HBn.out.setCell (p := ⟨w.heap.size + 1, 0, none⟩) (by simp) (.int .u8 99));have HI := hide (show (Tryz.prog.info? 82).map (·.size) = some (u8s T).length by rw [u8s_len, HTL.out]; exact size256);have c0 := blk_u8 B2n.out 0 (by simp [HOL.out]);have f0 := B2n.out.frozen 0;obtain ⟨o0, hO0⟩ : ∃ o0, (out.set pn.toNat y5)[0]'(by simp [HOL.out]) = o0 := ⟨_, rfl⟩;rw [hO0] at c0;clear hT hT' hk' hO0;cases bt
    · have q4e : q4 = q3 := by simpa using q4eq
      clear q4eq;subst q4e
      go_wp2_with fail
      refine (twice_any p _ p0 p1).mono ?_;rintro e w' ⟨rfl, rfl⟩
      go_wp2_with fail
      refine (rot1_any q4 _ k40 k41).mono ?_;rintro e w' ⟨rfl, rfl⟩
      go_wp2_with fail
      refine (rot2_any q4 _ k40 k41).mono ?_;rintro e w' ⟨rfl, rfl⟩
      go_wp2_with fail
      refine (rot3_any q4 _ k40 k41).mono ?_;rintro e w' ⟨rfl, rfl⟩
      go_wp2_with fail
      refine (rot4_any q4 _ k40 k41).mono ?_;rintro e w' ⟨rfl, rfl⟩
      go_wp2_with (first | (refine wpList_load_blk rfl 82 _ rfl _ rfl _ _ B2z.out 256 5 rfl HI.out ?_) | (refine wpList_store_blk rfl 82 _ _ rfl _ 0 (u8s T) rfl rfl _ _ B1z.out (by rw [u8s_len, u8s_len, HTL.out]; simp) HI.out (u8s_one _) ?_; intro w3 hB hg hs))
      have hB2 : Blk w3 w.heap.size 82 (u8s T) := by rw [lset_all _ _ (by rw [u8s_len, u8s_len, HTL.out]; simp)] at hB; exact hB
      refine bodyPost_ret (v := .agg (u8s T).toArray) (results_cell_row rfl _ _ w.heap.size 82 _ (0, 0) _ rfl hB2 rfl rfl (by simpa using HI.out)) rfl ⟨rfl, HBz.out.grown hg HBz.out.size (by intro k hk; simp at hk; omega)⟩
    · have q4e : bits .xor .u8 q3 9 = q4 := by simpa using q4eq.symm
      clear q4eq
      go_wp2_with fail
      refine (twice_any p _ p0 p1).mono ?_;rintro e w' ⟨rfl, rfl⟩
      go_wp2_with fail
      refine (rot1_any q4 _ k40 k41).mono ?_;rintro e w' ⟨rfl, rfl⟩
      go_wp2_with fail
      refine (rot2_any q4 _ k40 k41).mono ?_;rintro e w' ⟨rfl, rfl⟩
      go_wp2_with fail
      refine (rot3_any q4 _ k40 k41).mono ?_;rintro e w' ⟨rfl, rfl⟩
      go_wp2_with fail
      refine (rot4_any q4 _ k40 k41).mono ?_;rintro e w' ⟨rfl, rfl⟩
      go_wp2_with (first | (refine wpList_load_blk rfl 82 _ rfl _ rfl _ _ B2z.out 256 5 rfl HI.out ?_) | (refine wpList_store_blk rfl 82 _ _ rfl _ 0 (u8s T) rfl rfl _ _ B1z.out (by rw [u8s_len, u8s_len, HTL.out]; simp) HI.out (u8s_one _) ?_; intro w3 hB hg hs))
      have hB2 : Blk w3 w.heap.size 82 (u8s T) := by rw [lset_all _ _ (by rw [u8s_len, u8s_len, HTL.out]; simp)] at hB; exact hB
      refine bodyPost_ret (v := .agg (u8s T).toArray) (results_cell_row rfl _ _ w.heap.size 82 _ (0, 0) _ rfl hB2 rfl rfl (by simpa using HI.out)) rfl ⟨rfl, HBz.out.grown hg HBz.out.size (by intro k hk; simp at hk; omega)⟩

set_option maxRecDepth 100000 in
set_option maxHeartbeats 4000000 in
theorem refbox_any (w : World) : Calls Tryz.prog 59 #[] w fun e w' => e = .returned (.agg (u8s (refTab (refS 255).2.1 (refS 255).2.2)).toArray) ∧ Below w.heap.size w w' := by
 obtain ⟨T, HT⟩ : ∃ T, Hid (refTab (refS 255).2.1 (refS 255).2.2 = T) := ⟨_, hide rfl⟩;have HTL := hide (show T.length = 256 by rw [← HT.out]; exact refTab_len _ _);rw [HT.out]
 go_enter Tryz.func59, Tryz.ntmps59
 have tokA : True := trivial;have tokB : True := trivial;have tokC : True := trivial;have tokD : True := trivial
 go_wp2_with (first | (have tok2 := tokA; refine wpList_alloc_blk rfl 82 rfl _ zero256 ?_; intro w1 b1 hb1 hs1; clear tokA tok2) | (have tok2 := tokB; refine wpList_alloc_blk rfl 82 rfl _ zero256 ?_; intro w2 b2 hb2 hs2; clear tokB tok2) | (have tok2 := tokC; refine wpList_alloc_blk rfl 82 rfl _ zero256 ?_; intro w3 b3 hb3 hs3; clear tokC tok2) | (have tok2 := tokD; refine wpList_alloc_blk rfl 82 rfl _ zero256 ?_; intro w4 b4 hb4 hs4; clear tokD tok2))
 have B0 := hide (((b1.below hb2 (by omega)).below hb3 (by omega)).below hb4 (by omega));have B1 := hide (show Blk w4 (w.heap.size + 1) 82 (u8s (List.replicate 256 0)) by rw [← hs1]; exact ((b2.below hb3 (by omega)).below hb4 (by omega)));have B2 := hide (show Blk w4 (w.heap.size + 1 + 1) 82 (u8s (List.replicate 256 0)) by rw [show w.heap.size + 1 + 1 = w2.heap.size by omega]; exact (b3.below hb4 (by omega)));have B3 := hide (show Blk w4 (w.heap.size + 1 + 1 + 1) 82 (u8s (List.replicate 256 0)) by rw [show w.heap.size + 1 + 1 + 1 = w3.heap.size by omega]; exact b4);have HB := hide (((hb1.trans (hb2.mono (by omega))).trans (hb3.mono (by omega))).trans (hb4.mono (by omega)))
 have hs : w1.heap.size = w.heap.size + 1 ∧ w2.heap.size = w.heap.size + 2 ∧ w3.heap.size = w.heap.size + 3 := by omega
 have HS := hide hs

 clear b1 b2 b3 b4 hb1 hb2 hb3 hb4 hs1 hs2 hs3 hs4 hs
 go_loopw [4, 5] (fun vx vi wr => ∃ k : Nat, k ≤ 255 ∧ vi = .int .i64 k ∧ vx = .int .u8 (refS k).1 ∧ Blk wr w.heap.size 82 (u8s (List.replicate 256 0)) ∧ Blk wr (w.heap.size + 1) 82 (u8s (refS k).2.1) ∧ Blk wr (w.heap.size + 1 + 1) 82 (u8s (refS k).2.2) ∧ Blk wr (w.heap.size + 1 + 1 + 1) 82 (u8s (List.replicate 256 0)) ∧ Below w.heap.size w wr) (fun _ vi _ => (255 - intOf vi).toNat)
 case atStart => exact ⟨0, by omega, rfl, rfl, B0.out, B1.out, B2.out, B3.out, HB.out⟩
 case round =>
  clear B0 B1 B2 B3 HB HS;obtain ⟨k, hk, rfl, rfl, b0, b1, b2, b3, hb⟩ := hrel;have B0 := hide b0;have B3 := hide b3;have HB := hide hb;obtain ⟨⟨x0, x1⟩, hp, hl⟩ := refS_ok k hk;have HPow := hide hp;have HLog := hide hl;have HN := hide (show refS (k + 1) = (X8 (refS k).1 (tw (refS k).1), (refS k).2.1.set k (refS k).1, (refS k).2.2.set (refS k).1.toNat k) from rfl);obtain ⟨x, HX⟩ : ∃ x, Hid ((refS k).1 = x) := ⟨_, hide rfl⟩;obtain ⟨pow, HP⟩ : ∃ p, Hid ((refS k).2.1 = p) := ⟨_, hide rfl⟩;obtain ⟨log, HL⟩ : ∃ p, Hid ((refS k).2.2 = p) := ⟨_, hide rfl⟩;rw [HX.out, HP.out, HL.out] at HN;rw [HX.out] at x0 x1;rw [HX.out];rw [HP.out] at b1 HPow;rw [HL.out] at b2 HLog;have B1 := hide b1;have B2 := hide b2;clear b0 b1 b2 b3 hb hp hl
  by_cases hkt : k < 255
  · have c1 := blk_u8 B1.out k (by rw [HPow.out.1]; omega)
    have c2 := blk_u8 B2.out x.toNat (by rw [HLog.out.1]; omega);have f1 := B1.out.frozen k;have f2 := B2.out.frozen x.toNat;obtain ⟨o1, h1⟩ : ∃ o, (pow[k]'(by rw [HPow.out.1]; omega)) = o := ⟨_, rfl⟩;obtain ⟨o2, h2⟩ : ∃ o, (log[x.toNat]'(by rw [HLog.out.1]; omega)) = o := ⟨_, rfl⟩;rw [h1] at c1;rw [h2] at c2;clear h1 h2
    have hk0 : (0 : Int) ≤ (k : Int) := by omega
    have hk1 : (k : Int) < 255 := by omega
    obtain ⟨xn, hxn⟩ : ∃ xn, bits .xor .u8 x (tw x) = xn := ⟨_, rfl⟩;have HXN := hide (show X8 x (tw x) = xn from hxn)
    go_wp2_with fail
    refine (twice_ref x _ x0 x1).mono ?_;rintro e w' ⟨rfl, rfl⟩
    go_wp2_with fail
    go_roundw
    case measure => simp [intOf]; omega
    case rel =>
     have e1 : (k : Int) + 1 = ((k + 1 : Nat) : Int) := by omega
     refine ⟨k + 1, by omega, by rw [e1], by rw [HN.out, HXN.out], ?_, by rw [HN.out]; exact (blk_set B1.out _ _).far (p := ⟨w.heap.size + 1 + 1, x.toNat, none⟩) (by simp) _, by rw [HN.out]; exact blk_set (B2.out.far (p := ⟨w.heap.size + 1, k, none⟩) (by simp) _) _ _, (B3.out.far (p := ⟨w.heap.size + 1, k, none⟩) (by simp; omega) _).far (p := ⟨w.heap.size + 1 + 1, x.toNat, none⟩) (by simp) _, ((HB.out.setCell (p := ⟨w.heap.size + 1, k, none⟩) (by simp) _).setCell (p := ⟨w.heap.size + 1 + 1, x.toNat, none⟩) (by simp; omega) _)⟩;exact (B0.out.far (p := ⟨w.heap.size + 1, k, none⟩) (by simp) _).far (p := ⟨w.heap.size + 1 + 1, x.toNat, none⟩) (by simp; omega) _
  · have HK := hide (show k = 255 by omega)
    rw [← HK.out, HP.out, HL.out] at HT;clear HN HX HP HL HK;have HZ := hide (show ∀ j, j < 256 → (List.replicate 256 (0 : Int)).getD j 0 = if j < 0 then T.getD j 0 else 0 from fun j hj => by rw [if_neg (by omega), getD_el _ _ (by rw [List.length_replicate]; exact hj), List.getElem_replicate])
    go_wp2_with fail
    go_loopw [25] (fun vi wr => ∃ (i : Nat) (xs : List Int), i ≤ 256 ∧ vi = .int .i64 i ∧ xs.length = 256 ∧ (∀ j, j < 256 → xs.getD j 0 = if j < i then T.getD j 0 else 0) ∧ Blk wr w.heap.size 82 (u8s (List.replicate 256 0)) ∧ Blk wr (w.heap.size + 1) 82 (u8s pow) ∧ Blk wr (w.heap.size + 1 + 1) 82 (u8s log) ∧ Blk wr (w.heap.size + 1 + 1 + 1) 82 (u8s xs) ∧ Below w.heap.size w wr) (fun vi _ => (256 - intOf vi).toNat)
    case atStart => exact ⟨0, _, by omega, rfl, List.length_replicate, HZ.out, B0.out, B1.out, B2.out, B3.out, HB.out⟩
    case round =>
     clear B0 B1 B2 B3 HB HZ x0 x1;obtain ⟨i, xs, hi, rfl, hl, hx, b0, b1, b2, b3, hb⟩ := hrel;have B0 := hide b0;have B1 := hide b1;have B2 := hide b2;have B3 := hide b3;have HB := hide hb;have HXL := hide hl;have HXS := hide hx;clear b0 b1 b2 b3 hb hl hx
     have i0 : (0 : Int) ≤ (i : Int) := by omega
     by_cases hit : i < 256
     · have i1 : (i : Int) < 256 := by omega
       have c3 := blk_u8 B3.out i (by rw [HXL.out]; exact hit);have f3 := B3.out.frozen i;obtain ⟨o3, h3⟩ : ∃ o, (xs[i]'(by rw [HXL.out]; exact hit)) = o := ⟨_, rfl⟩;rw [h3] at c3;clear h3
       by_cases hi0 : (0 : Int) < (i : Int)
       · obtain ⟨l, HLi⟩ : ∃ l, Hid (log.getD i 0 = l) := ⟨_, hide rfl⟩
         have hli : 0 ≤ l ∧ l < 256 := by rw [← HLi.out]; exact byteL_get HLog.out i hit
         obtain ⟨l0, l1⟩ := hli;have c2 := blk_u8 B2.out i (by rw [HLog.out.1]; exact hit);rw [← getD_el log i (by rw [HLog.out.1]; exact hit), HLi.out] at c2;obtain ⟨m, hm⟩ : ∃ m, (255 - l).tmod 255 = m := ⟨_, rfl⟩;have HM := hide (show (255 - l) % 255 = m by rw [← hm]; exact (Int.tmod_eq_emod_of_nonneg (by omega)).symm)
         have hm2 : 0 ≤ m ∧ m < 255 := by rw [← HM.out]; omega
         obtain ⟨m0, m1⟩ := hm2;obtain ⟨v, HV⟩ : ∃ v, Hid (pow.getD m.toNat 0 = v) := ⟨_, hide rfl⟩
         have hv : 0 ≤ v ∧ v < 256 := by rw [← HV.out]; exact byteL_get HPow.out _ (by omega)
         obtain ⟨v0, v1⟩ := hv;have c1 := blk_u8 B1.out m.toNat (by rw [HPow.out.1]; omega);rw [← getD_el pow m.toNat (by rw [HPow.out.1]; omega), HV.out] at c1;have HInv := hide (show refInv pow log i = v by unfold refInv; rw [if_neg (by omega), HLi.out, HM.out, HV.out])
         go_wp2_with fail
         go_loopw [8, 9] (fun vx vj wr' => ∃ j : Nat, j ≤ 5 ∧ vj = .int .i64 j ∧ vx = .int .u8 (affS v j) ∧ wr' = wr) (fun _ vj _ => (5 - intOf vj).toNat)
         case atStart => exact ⟨0, by omega, rfl, rfl, rfl⟩
         case round =>
          obtain ⟨j, hj, rfl, rfl, rfl⟩ := hrel;obtain ⟨x0, x1⟩ := affS_byte v0 v1 j;have HN := hide (show affS v (j + 1) = X8 (affS v j) (rotN v j) from rfl);obtain ⟨x, HX⟩ : ∃ x, Hid (affS v j = x) := ⟨_, hide rfl⟩;rw [HX.out] at HN x0 x1;rw [HX.out]
          have hj0 : (0 : Int) ≤ (j : Int) := by omega
          by_cases hjt : j < 5
          · have hj1 : (j : Int) < 5 := by omega
            go_wp2_with fail
            have e1 : (j : Int) + 1 = ((j + 1 : Nat) : Int) := by omega
            refine ⟨⟨j + 1, by omega, by rw [e1], ?_, trivial⟩, by simp [intOf]; omega⟩;rw [HN.out]; rfl
          · obtain rfl : j = 5 := by omega
            have HTi := hide (show T.getD i 0 = x by rw [← HT.out, refTab_get _ _ _ hit, HInv.out, HX.out])
            go_wp2_with fail
            have e1 : (i : Int) + 1 = ((i + 1 : Nat) : Int) := by omega
            refine ⟨⟨i + 1, xs.set i x, by omega, by rw [e1], by rw [List.length_set]; exact HXL.out, fun j hj => ?_, B0.out.far (p := ⟨w.heap.size + 1 + 1 + 1, i, none⟩) (by simp <;> omega) _, B1.out.far (p := ⟨w.heap.size + 1 + 1 + 1, i, none⟩) (by simp <;> omega) _, B2.out.far (p := ⟨w.heap.size + 1 + 1 + 1, i, none⟩) (by simp) _, blk_set B3.out i x, HB.out.setCell (p := ⟨w.heap.size + 1 + 1 + 1, i, none⟩) (by simp; omega) _⟩, by simp [intOf]; omega⟩;rw [getD_set' _ _ _ _ (by rw [HXL.out]; exact hit), HXS.out j hj]
            by_cases e : i = j
            · subst e; rw [if_pos rfl, if_pos (by omega), HTi.out]
            · rw [if_neg e]
              by_cases h2 : j < i
              · rw [if_pos h2, if_pos (by omega)]
              · rw [if_neg h2, if_neg (by omega)]
       · have HI0 := hide (show i = 0 by omega)
         have v0 : (0 : Int) ≤ 0 := by omega
         have v1 : (0 : Int) < 256 := by omega
         have HInv := hide (show refInv pow log i = 0 by unfold refInv; rw [if_pos HI0.out])
         go_wp2_with fail
         go_loopw [8, 9] (fun vx vj wr' => ∃ j : Nat, j ≤ 5 ∧ vj = .int .i64 j ∧ vx = .int .u8 (affS 0 j) ∧ wr' = wr) (fun _ vj _ => (5 - intOf vj).toNat)
         case atStart => exact ⟨0, by omega, rfl, rfl, rfl⟩
         case round =>
          obtain ⟨j, hj, rfl, rfl, rfl⟩ := hrel;obtain ⟨x0, x1⟩ := affS_byte v0 v1 j;have HN := hide (show affS 0 (j + 1) = X8 (affS 0 j) (rotN 0 j) from rfl);obtain ⟨x, HX⟩ : ∃ x, Hid (affS 0 j = x) := ⟨_, hide rfl⟩;rw [HX.out] at HN x0 x1;rw [HX.out]
          have hj0 : (0 : Int) ≤ (j : Int) := by omega
          by_cases hjt : j < 5
          · have hj1 : (j : Int) < 5 := by omega
            go_wp2_with fail
            have e1 : (j : Int) + 1 = ((j + 1 : Nat) : Int) := by omega
            refine ⟨⟨j + 1, by omega, by rw [e1], ?_, trivial⟩, by simp [intOf]; omega⟩;rw [HN.out, show rotN 0 j = bits .or .u8 0 0 by unfold rotN; rw [Int.zero_mul, Int.zero_ediv]; rfl]; rfl
          · obtain rfl : j = 5 := by omega
            have HTi := hide (show T.getD i 0 = x by rw [← HT.out, refTab_get _ _ _ hit, HInv.out, HX.out])
            go_wp2_with fail
            have e1 : (i : Int) + 1 = ((i + 1 : Nat) : Int) := by omega
            refine ⟨⟨i + 1, xs.set i x, by omega, by rw [e1], by rw [List.length_set]; exact HXL.out, fun j hj => ?_, B0.out.far (p := ⟨w.heap.size + 1 + 1 + 1, i, none⟩) (by simp <;> omega) _, B1.out.far (p := ⟨w.heap.size + 1 + 1 + 1, i, none⟩) (by simp <;> omega) _, B2.out.far (p := ⟨w.heap.size + 1 + 1 + 1, i, none⟩) (by simp) _, blk_set B3.out i x, HB.out.setCell (p := ⟨w.heap.size + 1 + 1 + 1, i, none⟩) (by simp; omega) _⟩, by simp [intOf]; omega⟩;rw [getD_set' _ _ _ _ (by rw [HXL.out]; exact hit), HXS.out j hj]
            by_cases e : i = j
            · subst e; rw [if_pos rfl, if_pos (by omega), HTi.out]
            · rw [if_neg e]
              by_cases h2 : j < i
              · rw [if_pos h2, if_pos (by omega)]
              · rw [if_neg h2, if_neg (by omega)]
     · have hx : xs = T := by
        refine ext_getD (by rw [HXL.out, HTL.out]) fun j hj => ?_
        rw [HXL.out] at hj;rw [HXS.out j hj, if_pos (by omega)]
       have HXX := hide hx;have HI := hide (show (Tryz.prog.info? 82).map (·.size) = some (u8s xs).length by rw [u8s_len, HXL.out]; exact size256);clear hx
       go_wp2_with (first | (refine wpList_load_blk rfl 82 _ rfl _ rfl _ _ B3.out 256 5 rfl HI.out ?_) | (refine wpList_store_blk rfl 82 _ _ rfl _ 0 (u8s xs) rfl rfl _ _ B0.out (by rw [u8s_len, u8s_len, HXL.out]; simp) HI.out (u8s_one _) ?_; intro w3 hB hg hs))
       have hB2 : Blk w3 w.heap.size 82 (u8s xs) := by rw [lset_all _ _ (by rw [u8s_len, u8s_len, HXL.out]; simp)] at hB; exact hB
       refine bodyPost_ret (v := .agg (u8s xs).toArray) (results_cell_row rfl _ _ w.heap.size 82 _ (0, 0) _ rfl hB2 rfl rfl (by simpa using HI.out)) rfl ⟨by rw [HXX.out], HB.out.grown hg HB.out.size (by intro k hk; simp at hk; omega)⟩

theorem tab_bytes : byteL boxTab := by
 refine ⟨boxTab_len, ?_⟩
 have : (boxTab.all fun u => decide (0 ≤ u) && decide (u < 256)) = true := by decide +kernel
 intro u hu
 have h := List.all_eq_true.1 this u hu
 simpa using h
theorem tab_eq : refTab (refS 255).2.1 (refS 255).2.2 = boxTab := by decide +kernel
theorem refbox_tab (w : World) : Calls Tryz.prog 59 #[] w fun e w' => e = .returned (.agg (u8s boxTab).toArray) ∧ Below w.heap.size w w' := by
 rw [← tab_eq]; exact refbox_any w
/-- The answers. -/
def ExpandF (key : List Int) : List Int := aesKeyF boxTab key
theorem ExpandF_len {key : List Int} (h : key.length = 16) (hb : Bytes key) : (ExpandF key).length = 176 := aesKeyF_len tab_bytes.2 h hb
theorem ExpandF_bytes {key : List Int} (h : key.length = 16) (hb : Bytes key) : Bytes (ExpandF key) := aesKeyF_bytes tab_bytes.2 h hb
end Go.Proofs.YthdjgebbjogmiaaGreatDoor
