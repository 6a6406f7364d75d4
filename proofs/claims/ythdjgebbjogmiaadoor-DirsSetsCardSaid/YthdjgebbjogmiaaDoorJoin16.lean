/- aes.box: the table of bytes, walked.
ref.boxes: walked.
The two tables are one; all its entries are bytes; no two agree.
aes.Block, aes.Expand, and the references' twins: walked. -/
import Derived.Test.YthdjgebbjogmiaaDoorJoin13
import Derived.Deep.LoopGhost
import Derived.LoopIn
import Derived.Test.YthdjgebbjogmiaaDoorJoin14
import Derived.Test.YthdjgebbjogmiaaDoorAesRefBlk
import Derived.Test.YthdjgebbjogmiaaDoorJoin15
set_option linter.unusedVariables false
set_option linter.unusedSimpArgs false
namespace Go.Proofs.YthdjgebbjogmiaaDoor
open Go Go.RowKit
set_option maxRecDepth 100000
set_option maxRecDepth 100000 in
set_option maxHeartbeats 4000000 in
theorem box_any (w : World) : Calls Tryd.prog 89 #[] w fun e w' => e = .returned (.agg (u8s boxTab).toArray) ∧ Below w.heap.size w w' := by
 obtain ⟨T, HT⟩ : ∃ T, Hid (boxTab = T) := ⟨_, hide rfl⟩
 have HTL := hide (show T.length = 256 by rw [← HT.out]; exact boxTab_len)
 rw [HT.out]
 go_enter Tryd.func89, Tryd.ntmps89
 have tokA : True := trivial
 have tokB : True := trivial
 go_wp2_with (first | (have tokA2 := tokA; refine wpList_alloc_blk rfl 88 rfl _ zero256 ?_; intro w1 b1 hb1 hs1; clear tokA tokA2) | (have tokB2 := tokB; refine wpList_alloc_blk rfl 88 rfl _ zero256 ?_; intro w2 b2 hb2 hs2; clear tokB tokB2))
 have B1 := hide (b1.below hb2 (by omega))
 have B2 := hide (show Blk w2 (w.heap.size + 1) 88 (u8s (List.replicate 256 0)) by rw [← hs1]; exact b2)
 have HB := hide (hb1.trans (hb2.mono (by omega)))
 have hs : w2.heap.size = w.heap.size + 2 := by omega
 have HS := hide hs
 clear b1 b2 hb1 hb2 hs1 hs2 hs
 go_loopg [2, 3, 4] 255 (fun g vp vq _ wr => ∃ k : Nat, g + k = 255 ∧ k ≤ 254 ∧ vp = .int .u8 (boxS k).1 ∧ vq = .int .u8 (boxS k).2.1 ∧ Blk wr w.heap.size 88 (u8s (List.replicate 256 0)) ∧ Blk wr (w.heap.size + 1) 88 (u8s (boxS k).2.2) ∧ Below w.heap.size w wr)
 case atStart => exact ⟨0, rfl, by omega, rfl, rfl, B1.out, B2.out, HB.out⟩
 case round =>
  clear B1 B2 HB HS
  obtain ⟨k, hg, hk, rfl, rfl, b1, b2, hb⟩ := hrel
  have B1 := hide b1
  have HB := hide hb
  obtain ⟨⟨p0, p1⟩, ⟨q0, q1⟩, ol⟩ := boxS_ok k
  have HN := hide (show boxS (k + 1) = boxStep (boxS k) from rfl)
  have HLast := hide (box_last k hk)
  obtain ⟨p, HP⟩ : ∃ p, Hid ((boxS k).1 = p) := ⟨_, hide rfl⟩
  obtain ⟨q, HQ⟩ : ∃ q, Hid ((boxS k).2.1 = q) := ⟨_, hide rfl⟩
  obtain ⟨out, HO⟩ : ∃ out, Hid ((boxS k).2.2 = out) := ⟨_, hide rfl⟩
  rw [HP.out] at p0 p1
  rw [HQ.out] at q0 q1
  rw [HO.out] at ol b2
  have B2 := hide b2
  have HOL := hide ol
  have HG := hide hg
  have HP' := HP.out
  have HQ' := HQ.out
  rw [HP', HQ']
  clear b1 b2 hb ol hg HP' HQ'
  obtain ⟨pn, hpn⟩ : ∃ x, bits .xor .u8 p (tw p) = x := ⟨_, rfl⟩
  have hpp : 0 ≤ pn ∧ pn < 256 := by rw [← hpn]; exact boxP_byte ⟨p0, p1⟩
  obtain ⟨q1', hq1⟩ : ∃ x, bits .xor .u8 q (q * 2 % 256) = x := ⟨_, rfl⟩
  have k1 : 0 ≤ q1' ∧ q1' < 256 := by rw [← hq1]; exact x8_byte ⟨q0, q1⟩ (by omega)
  obtain ⟨q2, hq2⟩ : ∃ x, bits .xor .u8 q1' (q1' * 4 % 256) = x := ⟨_, rfl⟩
  have k2 : 0 ≤ q2 ∧ q2 < 256 := by rw [← hq2]; exact x8_byte k1 (by omega)
  obtain ⟨q3, hq3⟩ : ∃ x, bits .xor .u8 q2 (q2 * 16 % 256) = x := ⟨_, rfl⟩
  have k3 : 0 ≤ q3 ∧ q3 < 256 := by rw [← hq3]; exact x8_byte k2 (by omega)
  have HQ3 := hide (show boxQ q = boxQ4 q3 by unfold boxQ boxQ3 boxQ2 boxQ1 X8; rw [hq1, hq2, hq3])
  obtain ⟨q4, HQ4⟩ : ∃ x, Hid (boxQ4 q3 = x) := ⟨_, hide rfl⟩
  have k4 : 0 ≤ q4 ∧ q4 < 256 := by rw [← HQ4.out]; exact boxQ4_byte k3
  obtain ⟨y1, hy1⟩ : ∃ x, bits .xor .u8 q4 (rot1 q4) = x := ⟨_, rfl⟩
  obtain ⟨y2, hy2⟩ : ∃ x, bits .xor .u8 y1 (rot2 q4) = x := ⟨_, rfl⟩
  obtain ⟨y3, hy3⟩ : ∃ x, bits .xor .u8 y2 (rot3 q4) = x := ⟨_, rfl⟩
  obtain ⟨y4, hy4⟩ : ∃ x, bits .xor .u8 y3 (rot4 q4) = x := ⟨_, rfl⟩
  obtain ⟨y5, hy5⟩ : ∃ x, bits .xor .u8 y4 99 = x := ⟨_, rfl⟩
  have HY := hide (show boxX q4 = y5 by unfold boxX X8; rw [hy1, hy2, hy3, hy4, hy5])
  have HPn := hide (show boxP p = pn from hpn)
  obtain ⟨pp0, pp1⟩ := hpp
  obtain ⟨k40, k41⟩ := k4
  obtain ⟨old, hold⟩ : ∃ old, wr.cell? ⟨w.heap.size + 1, pn.toNat, none⟩ = some old := by
   have := blk_u8 B2.out pn.toNat (by rw [HOL.out]; omega)
   exact ⟨_, this⟩
  have hf := B2.out.frozen pn.toNat
  have HNew := hide (show boxS (k + 1) = (pn, q4, out.set pn.toNat y5) by
   rw [HN.out]
   show (boxP (boxS k).1, boxQ (boxS k).2.1, (boxS k).2.2.set (boxP (boxS k).1).toNat (boxX (boxQ (boxS k).2.1))) = _
   rw [HP.out, HQ.out, HO.out, HPn.out, HQ3.out, HQ4.out, HY.out])
  have hlast := HLast.out
  rw [HNew.out] at hlast
  have hlast2 : (pn == 1) = decide (k = 254) := hlast
  clear k1 k2 k3
  have q4eq : q4 = if (bits .and .u8 q3 128 != 0) = true then bits .xor .u8 q3 9 else q3 := HQ4.out.symm
  have HLE := hide hlast2
  clear hlast hlast2
  obtain ⟨bt, hbt⟩ : ∃ bt, (bits .and .u8 q3 128 != 0) = bt := ⟨_, rfl⟩
  rw [hbt] at q4eq
  obtain ⟨bl, hbl⟩ : ∃ bl, (pn == 1) = bl := ⟨_, rfl⟩
  have B2n := hide (show Blk (wr.setCell ⟨w.heap.size + 1, pn.toNat, none⟩ (.int .u8 y5)) (w.heap.size + 1) 88 (u8s (out.set pn.toNat y5)) from blk_set B2.out _ _)
  have B1n := hide (show Blk (wr.setCell ⟨w.heap.size + 1, pn.toNat, none⟩ (.int .u8 y5)) w.heap.size 88 (u8s (List.replicate 256 0)) from B1.out.far (p := ⟨w.heap.size + 1, pn.toNat, none⟩) (by simp) _)
  have HBn := hide (HB.out.setCell (p := ⟨w.heap.size + 1, pn.toNat, none⟩) (by simp) (.int .u8 y5))
  cases bl
  · cases bt
    · have q4e : q4 = q3 := by simpa using q4eq
      clear q4eq
      subst q4e
      go_wp2_with fail
      refine (twice_any p _ p0 p1).mono ?_
      rintro e w' ⟨rfl, rfl⟩
      go_wp2_with fail
      refine (rot1_any q4 _ k40 k41).mono ?_
      rintro e w' ⟨rfl, rfl⟩
      go_wp2_with fail
      refine (rot2_any q4 _ k40 k41).mono ?_
      rintro e w' ⟨rfl, rfl⟩
      go_wp2_with fail
      refine (rot3_any q4 _ k40 k41).mono ?_
      rintro e w' ⟨rfl, rfl⟩
      go_wp2_with fail
      refine (rot4_any q4 _ k40 k41).mono ?_
      rintro e w' ⟨rfl, rfl⟩
      go_wp2_with fail
      go_roundg (gk - 1)
      case measure => have := HG.out; omega
      case rel =>
       have hk' : k ≠ 254 := by have := HLE.out; rw [hbl] at this; simpa using this.symm
       refine ⟨k + 1, by have := HG.out; omega, by omega, by rw [HNew.out], by rw [HNew.out], B1n.out, by rw [HNew.out]; exact B2n.out, HBn.out⟩
    · have q4e : bits .xor .u8 q3 9 = q4 := by simpa using q4eq.symm
      clear q4eq
      go_wp2_with fail
      refine (twice_any p _ p0 p1).mono ?_
      rintro e w' ⟨rfl, rfl⟩
      go_wp2_with fail
      refine (rot1_any q4 _ k40 k41).mono ?_
      rintro e w' ⟨rfl, rfl⟩
      go_wp2_with fail
      refine (rot2_any q4 _ k40 k41).mono ?_
      rintro e w' ⟨rfl, rfl⟩
      go_wp2_with fail
      refine (rot3_any q4 _ k40 k41).mono ?_
      rintro e w' ⟨rfl, rfl⟩
      go_wp2_with fail
      refine (rot4_any q4 _ k40 k41).mono ?_
      rintro e w' ⟨rfl, rfl⟩
      go_wp2_with fail
      go_roundg (gk - 1)
      case measure => have := HG.out; omega
      case rel =>
       have hk' : k ≠ 254 := by have := HLE.out; rw [hbl] at this; simpa using this.symm
       refine ⟨k + 1, by have := HG.out; omega, by omega, by rw [HNew.out], by rw [HNew.out], B1n.out, by rw [HNew.out]; exact B2n.out, HBn.out⟩
  · have hk' : k = 254 := by have := HLE.out; rw [hbl] at this; simpa using this.symm
    have hT : (out.set pn.toNat y5).set 0 99 = T := by rw [← HT.out]; unfold boxTab; subst hk'; rw [HNew.out]
    have hT' := blk_set B2n.out 0 99
    rw [hT] at hT'
    have B2z := hide hT'
    have B1z := hide (B1n.out.far (p := ⟨w.heap.size + 1, 0, none⟩) (by simp) (.int .u8 99))
    have HBz := hide (HBn.out.setCell (p := ⟨w.heap.size + 1, 0, none⟩) (by simp) (.int .u8 99))
    have HI := hide (show (Tryd.prog.info? 88).map (·.size) = some (u8s T).length by rw [u8s_len, HTL.out]; exact size256)
    have c0 := blk_u8 B2n.out 0 (by simp [HOL.out])
    have f0 := B2n.out.frozen 0
    obtain ⟨o0, hO0⟩ : ∃ o0, (out.set pn.toNat y5)[0]'(by simp [HOL.out]) = o0 := ⟨_, rfl⟩
    rw [hO0] at c0
    clear hT hT' hk' hO0
    cases bt
    · have q4e : q4 = q3 := by simpa using q4eq
      clear q4eq
      subst q4e
      go_wp2_with fail
      refine (twice_any p _ p0 p1).mono ?_
      rintro e w' ⟨rfl, rfl⟩
      go_wp2_with fail
      refine (rot1_any q4 _ k40 k41).mono ?_
      rintro e w' ⟨rfl, rfl⟩
      go_wp2_with fail
      refine (rot2_any q4 _ k40 k41).mono ?_
      rintro e w' ⟨rfl, rfl⟩
      go_wp2_with fail
      refine (rot3_any q4 _ k40 k41).mono ?_
      rintro e w' ⟨rfl, rfl⟩
      go_wp2_with fail
      refine (rot4_any q4 _ k40 k41).mono ?_
      rintro e w' ⟨rfl, rfl⟩
      go_wp2_with (first | (refine wpList_load_blk rfl 88 _ rfl _ rfl _ _ B2z.out 256 5 rfl HI.out ?_) | (refine wpList_store_blk rfl 88 _ _ rfl _ 0 (u8s T) rfl rfl _ _ B1z.out (by rw [u8s_len, u8s_len, HTL.out]; simp) HI.out (u8s_one _) ?_; intro w3 hB hg hs))
      have hB2 : Blk w3 w.heap.size 88 (u8s T) := by rw [lset_all _ _ (by rw [u8s_len, u8s_len, HTL.out]; simp)] at hB; exact hB
      refine bodyPost_ret (v := .agg (u8s T).toArray) (results_cell_row rfl _ _ w.heap.size 88 _ (0, 0) _ rfl hB2 rfl rfl (by simpa using HI.out)) rfl ⟨rfl, HBz.out.grown hg HBz.out.size (by intro k hk; simp at hk; omega)⟩
    · have q4e : bits .xor .u8 q3 9 = q4 := by simpa using q4eq.symm
      clear q4eq
      go_wp2_with fail
      refine (twice_any p _ p0 p1).mono ?_
      rintro e w' ⟨rfl, rfl⟩
      go_wp2_with fail
      refine (rot1_any q4 _ k40 k41).mono ?_
      rintro e w' ⟨rfl, rfl⟩
      go_wp2_with fail
      refine (rot2_any q4 _ k40 k41).mono ?_
      rintro e w' ⟨rfl, rfl⟩
      go_wp2_with fail
      refine (rot3_any q4 _ k40 k41).mono ?_
      rintro e w' ⟨rfl, rfl⟩
      go_wp2_with fail
      refine (rot4_any q4 _ k40 k41).mono ?_
      rintro e w' ⟨rfl, rfl⟩
      go_wp2_with (first | (refine wpList_load_blk rfl 88 _ rfl _ rfl _ _ B2z.out 256 5 rfl HI.out ?_) | (refine wpList_store_blk rfl 88 _ _ rfl _ 0 (u8s T) rfl rfl _ _ B1z.out (by rw [u8s_len, u8s_len, HTL.out]; simp) HI.out (u8s_one _) ?_; intro w3 hB hg hs))
      have hB2 : Blk w3 w.heap.size 88 (u8s T) := by rw [lset_all _ _ (by rw [u8s_len, u8s_len, HTL.out]; simp)] at hB; exact hB
      refine bodyPost_ret (v := .agg (u8s T).toArray) (results_cell_row rfl _ _ w.heap.size 88 _ (0, 0) _ rfl hB2 rfl rfl (by simpa using HI.out)) rfl ⟨rfl, HBz.out.grown hg HBz.out.size (by intro k hk; simp at hk; omega)⟩
end Go.Proofs.YthdjgebbjogmiaaDoor

namespace Go.Proofs.YthdjgebbjogmiaaDoor
open Go Go.RowKit
set_option maxRecDepth 100000

end Go.Proofs.YthdjgebbjogmiaaDoor

namespace Go.Proofs.YthdjgebbjogmiaaDoor
open Go Go.RowKit
set_option maxRecDepth 100000

theorem tab_bytes : byteL boxTab := by
 refine ⟨boxTab_len, ?_⟩
 have : (boxTab.all fun u => decide (0 ≤ u) && decide (u < 256)) = true := by decide +kernel
 intro u hu
 have h := List.all_eq_true.1 this u hu
 simpa using h
end Go.Proofs.YthdjgebbjogmiaaDoor

namespace Go.Proofs.YthdjgebbjogmiaaDoor
open Go Go.RowKit
set_option maxRecDepth 100000

/-- The answers. -/
def ExpandF (key : List Int) : List Int := aesKeyF boxTab key
theorem ExpandF_len {key : List Int} (h : key.length = 16) (hb : Bytes key) : (ExpandF key).length = 176 := aesKeyF_len tab_bytes.2 h hb
theorem ExpandF_bytes {key : List Int} (h : key.length = 16) (hb : Bytes key) : Bytes (ExpandF key) := aesKeyF_bytes tab_bytes.2 h hb
end Go.Proofs.YthdjgebbjogmiaaDoor
