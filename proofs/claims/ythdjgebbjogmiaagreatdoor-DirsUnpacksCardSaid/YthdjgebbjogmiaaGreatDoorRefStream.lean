/- aumbryref01.Stream, walked. -/
import Derived.Test.YthdjgebbjogmiaaGreatDoorJoin15
import Derived.Test.YthdjgebbjogmiaaGreatDoorJoin13
import Derived.Test.YthdjgebbjogmiaaGreatDoorJoin30
import Derived.Test.YthdjgebbjogmiaaGreatDoorStream
import Derived.RegionTactic
import Derived.Maps.Range
import Derived.Deep.CutRange
set_option linter.unusedVariables false
set_option linter.unusedSimpArgs false
namespace Go.Proofs.YthdjgebbjogmiaaGreatDoor
open Go Go.RowKit

theorem put_ctr (q : Nat) (hq : q < 4294967296) (j : Nat) (hj : j < 16) : ctrAt q j = if j < 8 then 0 else (putN q 8).getD (j - 8) 0 := by
 split
 · rename_i h
   unfold ctrAt;have e : q / 256 ^ (15 - j) = 0 := Nat.div_eq_of_lt (Nat.lt_of_lt_of_le hq (Nat.le_trans (show 4294967296 ≤ 256 ^ 8 by decide) (Nat.pow_le_pow_right (by omega) (by omega))));rw [e]; rfl
 · rename_i h
   rw [putN_get q 8 (j - 8) (by omega), ctrAt, show 8 - 1 - (j - 8) = 15 - j by omega]

set_option maxRecDepth 100000 in
set_option maxHeartbeats 400000 in
theorem Stream_ref (key b : List Int) (at_ : Int) (v : Value) (w : World) (hk : key.length = 16) (bk : Bytes key) (ha : -9223372036854775808 ≤ at_ ∧ at_ ≤ 9223372036854775807) (hv : Bs w w.heap.size v b) (hn : b.length ≤ 16000) (hb : Bytes b) :
 Calls Tryz.prog 43 #[.agg (u8s key).toArray, .int .i64 at_, v] w fun e w' => ∃ v', e = .returned v' ∧ Own8 w' w.heap.size v' (streamF boxTab (ExpandF key) (atF at_) b) ∧ Below w.heap.size w w' := by
 obtain ⟨T, HT⟩ : ∃ T, Hid (boxTab = T) := ⟨_, hide rfl⟩;have HTB := hide (show byteL T by rw [← HT.out]; exact tab_bytes);have HBX := hide (show ∀ w : World, Calls Tryz.prog 59 #[] w fun e w' => e = .returned (.agg (u8s T).toArray) ∧ Below w.heap.size w w' by rw [← HT.out]; exact refbox_tab);have HK := hide hk;have HBK := hide bk;have HV := hide hv;have HBB := hide hb;have HIK := hide (show (Tryz.prog.info? 23).map (·.size) = some (u8s key).length by rw [u8s_len, hk]; kernel_rfl);have HI256 := hide (show (Tryz.prog.info? 82).map (·.size) = some (u8s T).length by rw [u8s_len, HTB.out.1]; exact size256);obtain ⟨ks, HKS⟩ : ∃ x, Hid (ExpandF key = x) := ⟨_, hide rfl⟩;have HKL := hide (show ks.length = 176 by rw [← HKS.out]; exact ExpandF_len hk bk);have HKB := hide (show Bytes ks by rw [← HKS.out]; exact ExpandF_bytes hk bk)
 have HEX := hide (show ∀ (tb : Nat) (w : World), Blk w tb 82 (u8s T) → tb < w.heap.size → Calls Tryz.prog 60 #[.pointer (some ⟨tb, 0, none⟩), .agg (u8s key).toArray] w fun e w' => e = .returned (.agg (u8s ks).toArray) ∧ Below w.heap.size w w' by
  intro tb w h1 h2; rw [← HKS.out, ExpandF, HT.out]; exact expand_ref T key tb w HTB.out HK.out HBK.out h1 h2)
 have HI176 := hide (show (Tryz.prog.info? 84).map (·.size) = some (u8s ks).length by rw [u8s_len, HKL.out]; exact size176);rw [HT.out, HKS.out];obtain ⟨RES, HRES⟩ : ∃ x, Hid (streamF T ks (atF at_) b = x) := ⟨_, hide rfl⟩;rw [HRES.out];clear HKS HT;obtain ⟨a, HAF⟩ : ∃ a, Hid (atF at_ = a) := ⟨_, hide rfl⟩;rw [HAF.out] at HRES
 have ha30 : a ≤ 1073741824 := by rw [← HAF.out]; exact atF_le _
 have HAI := hide (show max 0 (min at_ 1073741824) = (a : Int) by rw [← HAF.out]; unfold atF; omega);obtain ⟨A, cp, rfl, hc1, hc2, hcs⟩ := hv.open_;unfold maxLen at hc2;have HCS := hide hcs;obtain ⟨n, HN⟩ : ∃ n, Hid (b.length = n) := ⟨_, hide rfl⟩;rw [HN.out] at hn hc1 HCS HV;rw [HN.out];clear hk bk hv hb hcs;obtain ⟨ha1, ha2⟩ := ha
 go_enter Tryz.func43, Tryz.ntmps43
 go_upto_region 1 with fail
 go_cut [1] from 17 to 19 (fun v1 wx => v1 = .int .i64 (a : Int) ∧ wx = w.alloc (.cells (u8s key).toArray 23))
 case first =>
  go_wp2_with fail
  all_goals
   go_meet
   exact ⟨by have h := HAI.out; refine congrArg (Value.int .i64) ?_; omega, rfl⟩
 case rest =>
 obtain ⟨rfl, rfl⟩ := hcut;obtain ⟨wb, HW⟩ : ∃ wb, Hid (w.alloc (.cells (u8s key).toArray 23) = wb) := ⟨_, hide rfl⟩;have B1 := hide (show Blk wb w.heap.size 23 (u8s key) by rw [← HW.out]; exact Blk.new w 23 (u8s key));have HB := hide (show Below w.heap.size w wb by rw [← HW.out]; exact (Below.refl w.heap.size w).alloc (Nat.le_refl _) _);have HSZ := hide (show wb.heap.size = w.heap.size + 1 by rw [← HW.out]; simp);rw [HW.out];clear HW
 go_wp2_with fail
 refine (HBX.out _).mono ?_;rintro e w1 ⟨rfl, hb1⟩;have HB1 := hide hb1;have hs1 := hb1.size;have HSZ1 := hide (show w.heap.size + 1 ≤ w1.heap.size by have := HSZ.out; omega);clear hb1 hs1
 go_wp2_with (first | (refine wpList_alloc_blk rfl 82 rfl _ zero256 ?_; intro w2 b2 hb2 hs2; have A2 := hide b2; have HA2 := hide hb2; have HS2 := hide hs2; clear b2 hb2 hs2) | (refine wpList_store_blk rfl 82 _ _ rfl _ 0 (u8s T) rfl rfl _ _ A2.out (by rw [u8s_len, u8s_len, HTB.out.1]; simp) HI256.out (u8s_one _) ?_; intro w3 b3 hg3 hs3; rw [lset_all _ _ (by rw [u8s_len, u8s_len, HTB.out.1]; simp)] at b3; have A3 := hide b3; have HG3 := hide hg3; have HS3 := hide hs3; have K3 := hide (((B1.out.below HB1.out B1.out.lt).below HA2.out (by have := HSZ1.out; omega)).grown hg3 (by have := HSZ1.out; simp <;> omega)); clear b3 hg3 hs3) | (refine wpList_load_blk rfl 23 _ rfl _ rfl _ _ K3.out 16 5 rfl HIK.out ?_))
 have htl : w1.heap.size < w3.heap.size := by have := HS2.out; have := HS3.out; omega
 refine (HEX.out w1.heap.size w3 A3.out htl).mono ?_;rintro e w4 ⟨rfl, hb4⟩;have hs4 := hb4.size;have T4 := hide (A3.out.below hb4 htl)
 have HB4 := hide (show Below w.heap.size w w4 by
  have hz1 := HSZ1.out;have hz := HSZ.out;have H1 : Below w.heap.size w w1 := HB.out.trans (HB1.out.mono (by omega));have H2 : Below w.heap.size w w2 := H1.trans (HA2.out.mono (by omega));have H3 : Below w.heap.size w w3 := H2.grown HG3.out H2.size (by intro k hk; simp at hk; omega)
  exact H3.trans (hb4.mono (by omega)))
 have hz1 := HSZ1.out;clear hb4 HSZ HSZ1 HB HB1 HA2 HG3 HS2 HS3 K3 A3 A2 B1;obtain ⟨tb, HTBN⟩ : ∃ x, Hid (w1.heap.size = x) := ⟨_, hide rfl⟩;rw [HTBN.out] at T4 htl hz1;rw [HTBN.out]
 go_wp2_with (first | (refine wpList_alloc_blk rfl 84 rfl _ zero176 ?_; intro w5 b5 hb5 hs5; have A5 := hide b5; have HA5 := hide hb5; have HS5 := hide hs5; clear b5 hb5 hs5) | (refine wpList_store_blk rfl 84 _ _ rfl _ 0 (u8s ks) rfl rfl _ _ A5.out (by rw [u8s_len, u8s_len, HKL.out]; simp) HI176.out (u8s_one _) ?_; intro w6 b6 hg6 hs6; rw [lset_all _ _ (by rw [u8s_len, u8s_len, HKL.out]; simp)] at b6; have A6 := hide b6; have HG6 := hide hg6; have HS6 := hide hs6; clear b6 hg6 hs6) | (at_builtin; have H5 := HB4.out.trans (HA5.out.mono HB4.out.size); have H6 := H5.grown HG6.out H5.size (by intro k hk; simp at hk; have := HB4.out.size; omega); have HVV := hide (HV.out.below H6 (Nat.le_refl _)); clear H5 H6; refine wpList_append_rd _ rfl _ _ _ rfl w6.heap.size _ _ _ el_u8 _ _ _ rfl (World.ownsRow_nil _ _ _ _) w.heap.size _ _ _ rfl HVV.out (u8s_one _) (by rw [HN.out]; omega) (Nat.le_refl _) ?_; intro v9 w7 ho7 hg7 hx7; clear hx7; have ho9 : w7.ownsRow w6.heap.size 5 1 v9 n (u8s b) := (by rw [← HN.out]; simpa using ho7); have HA7 := hide ((Below.refl w6.heap.size w6).grown hg7 (Nat.le_refl _) (fun k hk => absurd (show (none : Option Nat) = some k from hk) (by simp))); obtain ⟨A9, c9, rfl⟩ := own_shape ho9; have A7 := hide ho9; clear ho9 ho7 hg7) | (refine wpList_alloc_blk rfl 22 rfl _ zero16 ?_; intro w8 b8 hb8 hs8; have A8 := hide b8; have HA8 := hide hb8; have HS8 := hide hs8; clear b8 hb8 hs8))
 have hz4 := hs4;have s5 := HS5.out;have s6 := HS6.out;have s7 := HA7.out.size;have s8 := HS8.out;have TB := hide ((((T4.out.below HA5.out (by omega)).grown HG6.out (by simp <;> omega)).below HA7.out (by omega)).below HA8.out (by omega));have KB := hide ((A6.out.below HA7.out (by omega)).below HA8.out (by omega));have OB := hide (own_keptB A7.out HA8.out);have HOL := hide (show ∀ k, (Value.slice A9 n c9).ownBlock = some k → w6.heap.size ≤ k ∧ k < w7.heap.size from A7.out.lt);have NB := A8;have H5 : Below w.heap.size w w5 := HB4.out.trans (HA5.out.mono (by omega));have H6 : Below w.heap.size w w6 := H5.grown HG6.out H5.size (by intro k hk; simp at hk; omega);have H7 : Below w.heap.size w w7 := H6.trans (HA7.out.mono (by omega));have HB8 := hide (H7.trans (HA8.out.mono (by omega)))
 have hk5 : w4.heap.size < w6.heap.size := by omega
 have hk6 : w6.heap.size ≤ w7.heap.size := by omega
 have hk7 : w7.heap.size < w8.heap.size := by omega
 have hk4 : tb < w4.heap.size := by omega
 have hk3 : w.heap.size < tb := by omega
 clear H5 H6 H7 s5 s6 s7 s8 hz4 hs4 HA5 HG6 HA7 HA8 HS5 HS6 HS8 A5 A6 A7 A8 T4 HB4 htl hz1 HTBN;obtain ⟨kb, HKBN⟩ : ∃ x, Hid (w4.heap.size = x) := ⟨_, hide rfl⟩;obtain ⟨ob, HGO⟩ : ∃ x, Hid (w6.heap.size = x) := ⟨_, hide rfl⟩;obtain ⟨gn, HGN⟩ : ∃ x, Hid (w7.heap.size = x) := ⟨_, hide rfl⟩;rw [HKBN.out] at KB hk5 hk4;rw [HGO.out] at OB hk5 hk6 HOL;rw [HGN.out] at NB hk6 hk7 HOL;rw [HKBN.out, HGN.out];clear HKBN HGO HGN;have HZ16 := hide (show (List.replicate 16 (0 : Int)).length = 16 ∧ Bytes (List.replicate 16 (0 : Int)) from ⟨rfl, fun x hx => by have := (List.mem_replicate.1 hx).2; subst this; omega⟩)
 go_loopw [10, 27] (fun vh vi wr => ∃ (i : Nat) (h : Int) (now xs : List Int), i ≤ n ∧ vi = .int .i64 i ∧ vh = .int .i64 h ∧ -1 ≤ h ∧ h ≤ 1073741824 ∧ xs.length = n ∧ (∀ j, j < n → xs.getD j 0 = if j < i then streamAt T ks a b j else b.getD j 0) ∧ now.length = 16 ∧ Bytes now ∧ (∀ m : Nat, h = m → now = blockF T ks (ctr m)) ∧
  Blk wr tb 82 (u8s T) ∧ Blk wr kb 84 (u8s ks) ∧ wr.ownsRow ob 5 1 (.slice A9 n c9) n (u8s xs) ∧ Blk wr gn 22 (u8s now) ∧ Below w.heap.size w wr) (fun _ vi _ => n - (intOf vi).toNat)
 case atStart => exact ⟨0, -1, List.replicate 16 0, b, by omega, rfl, rfl, by omega, by omega, HN.out, fun j _ => by rw [if_neg (by omega)], HZ16.out.1, HZ16.out.2, fun m hm => by omega, TB.out, KB.out, OB.out, NB.out, HB8.out⟩
 case round =>
  clear TB KB OB NB HB8 HZ16;obtain ⟨i, h, now, xs, hi, rfl, rfl, hh1, hh2, hl, hx, hnl, hnb, hnow, tbb, kbb, obb, nbb, hbel⟩ := hrel;obtain ⟨wo, rfl⟩ : ∃ wo : World, wo = wr := ⟨_, rfl⟩;have HXL := hide hl;have HX := hide hx;have HNL := hide hnl;have HNB := hide hnb;have HNOW := hide hnow;have TB := hide tbb;have KB := hide kbb;have OB := hide obb;have NB := hide nbb;have HBW := hide hbel;have t1 := tbb.lt;have t2 := kbb.lt;have t4 := nbb.lt;have hws := hbel.size;clear hl hx hnl hnb hnow tbb kbb nbb hbel
  by_cases hit : i < n
  · obtain ⟨go, rfl⟩ : ∃ go, A9 = some ⟨go, 0, none⟩ := by
     rcases obb.2 with ⟨h', h0⟩ | ⟨g, cap, cur, h', _⟩
     · omega
     · injection h' with e1 _ _; exact ⟨g, e1⟩
    obtain ⟨g1, g2⟩ := HOL.out go rfl;clear obb;obtain ⟨x, HXb⟩ : ∃ x, Hid (b.getD i 0 = x) := ⟨_, hide rfl⟩;have csrc := OB.out.cellAt i (by omega);rw [u8s, List.getElem?_map, List.getElem?_eq_getElem (by rw [HXL.out]; exact hit)] at csrc;have hxi := HX.out i hit;rw [if_neg (by omega), HXb.out, List.getD_eq_getElem?_getD, List.getElem?_eq_getElem (by rw [HXL.out]; exact hit)] at hxi;simp only [Option.getD_some] at hxi;rw [hxi] at csrc;simp only [Option.map_some] at csrc;have hx8 := HBB.out.getD i;rw [HXb.out] at hx8;obtain ⟨x0, x1⟩ := hx8;obtain ⟨q, hq⟩ : ∃ q, (a + i) / 16 = q := ⟨_, rfl⟩
    have w1 : ((a : Int) + (i : Int)) / 16 = (q : Int) := by omega
    have i0 : (0 : Int) ≤ (i : Int) := by omega
    have i1 : (i : Int) < (n : Int) := by omega
    have a0 : (0 : Int) ≤ (a : Int) := by omega
    have hq30 : q ≤ 67200000 := by omega
    have HQ := hide hq;clear hq hxi
    go_upto_if 36 with fail
    simp only [w1]
    go_cut [10, 14, 15, 16, 27] from 27 to 66 (fun vh _ _ _ vi wx => vh = .int .i64 (q : Int) ∧ vi = .int .i64 i ∧ Blk wx gn 22 (u8s (blockF T ks (ctr q))) ∧ wo.grownBy wx (some gn))
    case first =>
     by_cases hqh : h = (q : Int)
     · subst hqh
       clear w1
       go_wp2_with fail
       go_meet
       exact ⟨rfl, rfl, by rw [← HNOW.out q rfl]; exact NB.out, World.grownBy.refl _ _⟩
     · have hbq : ((q : Int) != h) = true := by simp; exact fun e => hqh e.symm
       clear hqh
       go_wp2_with (refine wpList_alloc_blk rfl 22 rfl _ zero16 ?_; intro wa ba hba hsa; have BA := hide ba; have HBA := hide hba; have HSA := hide hsa; clear ba hba hsa)
       clear hbq w1;have hwa := HSA.out;have HCP := hide (Put_ref (q : Int) 8 wa ⟨by omega, by omega⟩ ⟨by omega, by omega⟩)
       have hpf : putF (q : Int) 8 = putN q 8 := by unfold putF wid; congr 1
       rw [hpf] at HCP;refine HCP.out.mono ?_;rintro e wp ⟨vp, rfl, hop, hbp⟩
       have hgi : wo.heap.size < wp.heap.size := by have := hbp.size; omega
       have BIp := hide (BA.out.below hbp (by omega));have HBp := hide (HBA.out.trans (hbp.mono (by omega)));have HPC := hide (put_ctr q (by omega));have hopl : (putN q 8).length = 8 := putN_len _ _;obtain ⟨pz, HPZ⟩ : ∃ z, Hid (putN q 8 = z) := ⟨_, hide rfl⟩;rw [HPZ.out] at hop hopl HPC
       have hop8 : wp.ownsRow wa.heap.size 5 1 vp 8 (u8s pz) := by rw [← hopl]; exact hop
       have HOP := hide hop8
       obtain ⟨gp, cpp, rfl, hgp⟩ : ∃ gp cpp, vp = .slice (some ⟨gp, 0, none⟩) 8 cpp ∧ wa.heap.size ≤ gp := by
        rcases hop8.2 with ⟨_, h0⟩ | ⟨g, cap, cur, h', h2, _⟩
        · omega
        · exact ⟨g, cap, h', h2⟩
       have HPL := hide hopl
       have hgpi : wo.heap.size < gp := by omega
       clear hop hop8 hopl hbp HCP BA HBA HSA hwa hpf
       go_wp2_with fail
       go_loopw [16, 43] (fun _ vj wq => ∃ (k : Nat) (ys : List Int), k ≤ 8 ∧ vj = .int .i64 k ∧ ys.length = 16 ∧ (∀ j, j < 16 → ys.getD j 0 = if 8 ≤ j ∧ j < 8 + k then ctrAt q j else 0) ∧ Blk wq wo.heap.size 22 (u8s ys) ∧ wp.grownBy wq (some wo.heap.size)) (fun _ vj _ => 8 - (intOf vj).toNat)
       case atStart => exact ⟨0, List.replicate 16 0, by omega, rfl, by simp, fun j hj => by rw [if_neg (by omega), rep_getD0], BIp.out, World.grownBy.refl _ _⟩
       case round =>
        clear BIp;obtain ⟨k, ys, hk, rfl, hyl, hy, bin, hgin⟩ := hrel;have HYL := hide hyl;have HY := hide hy;have BI := hide bin;have HGI := hide hgin;have HOPq := hide (HOP.out.kept hgin (.inr (by simp [Value.ownBlock]; omega)));clear hyl hy bin hgin
        by_cases hkt : k < 8
        · have k0 : (0 : Int) ≤ (k : Int) := by omega
          have k1 : (k : Int) < 8 := by omega
          obtain ⟨e, he⟩ : ∃ e, 8 + k = e := ⟨_, rfl⟩
          have ee : (8 : Int) + (k : Int) = (e : Int) := by omega
          have e0 : (0 : Int) ≤ (e : Int) := by omega
          have e1 : (e : Int) < 16 := by omega
          have e2 : e < 16 := by omega
          have HE := hide he;obtain ⟨z, HZk⟩ : ∃ z, Hid (pz.getD k 0 = z) := ⟨_, hide rfl⟩;have c1 := HOPq.out.cellAt k (by omega);rw [u8s, List.getElem?_map, List.getElem?_eq_getElem (by rw [HPL.out]; exact hkt)] at c1;have hz1 := HZk.out;rw [List.getD_eq_getElem?_getD, List.getElem?_eq_getElem (by rw [HPL.out]; exact hkt)] at hz1;simp only [Option.getD_some] at hz1;rw [hz1] at c1;simp only [Option.map_some] at c1;obtain ⟨old, HOLD⟩ : ∃ x, Hid (ys.getD e 0 = x) := ⟨_, hide rfl⟩;have c3 := blk_get BI.out e old (by rw [HYL.out]; omega) HOLD.out;have f3 := BI.out.frozen e;clear he hz1
          go_wp2_with fail
          go_roundw
          case measure => simp [intOf]; omega
          case rel =>
           have e1 : (k : Int) + 1 = ((k + 1 : Nat) : Int) := by omega
           refine ⟨k + 1, ys.set e z, by omega, by rw [e1], by simpa using HYL.out, fun j hj => ?_, blk_set BI.out e _, grown_set HGI.out e _⟩;have he := HE.out;rw [getD_set' _ _ _ _ (by rw [HYL.out]; exact e2)]
           by_cases hej : e = j
           · subst hej
             rw [if_pos rfl, if_pos (by omega), HPC.out e e2, if_neg (by omega), show e - 8 = k by omega, HZk.out]
           · rw [if_neg hej, HY.out j hj]
             by_cases h1 : 8 ≤ j ∧ j < 8 + k
             · rw [if_pos h1, if_pos (by omega)]
             · rw [if_neg h1, if_neg (by omega)]
        · have HYC := hide (show ys = ctr q from ext_getD (by rw [HYL.out, ctr_len]) fun j hj => by
           rw [HYL.out] at hj;rw [HY.out j hj, ctr_get q j hj]
           by_cases h1 : 8 ≤ j
           · rw [if_pos (by omega)]
           · rw [if_neg (by omega), HPC.out j hj, if_pos (by omega)])
          have HIY := hide (show (Tryz.prog.info? 22).map (·.size) = some (u8s ys).length by rw [u8s_len, HYL.out]; exact size16);have HYB := hide (show Bytes ys by rw [HYC.out]; exact ctr_bytes q);have HGW := hide (show wo.grownBy wr (some gn) from (grown_of_below HBp.out (Nat.le_refl _) (some gn)).andThen HGI.out (fun j hj => .inl (by injection hj with hj; omega)));have TBi := hide (TB.out.grown HGW.out (by simp <;> omega));have KBi := hide (KB.out.grown HGW.out (by simp <;> omega));have u1 := TBi.out.lt;have u2 := KBi.out.lt;have NBi := hide ((NB.out.below HBp.out t4).grown HGI.out (by simp <;> omega));have u4 := NBi.out.lt;obtain ⟨Z, HZ⟩ : ∃ z, Hid (blockF T ks ys = z) := ⟨_, hide rfl⟩;have HZL := hide (show Z.length = 16 by rw [← HZ.out]; exact blockF_len HTB.out.2 HKL.out HKB.out HYL.out HYB.out)
          have HCB := hide (show Calls Tryz.prog 62 #[.pointer (some ⟨tb, 0, none⟩), .pointer (some ⟨kb, 0, none⟩), .agg (u8s ys).toArray] wr fun e w' => e = .returned (.agg (u8s Z).toArray) ∧ Below wr.heap.size wr w' by
           rw [← HZ.out]; exact block_ref T ks ys kb tb wr HTB.out HKL.out HKB.out HYL.out HYB.out KBi.out TBi.out u2 u1)
          have HZC := hide (show blockF T ks (ctr q) = Z by rw [← HZ.out, ← HYC.out]);clear HZ HYC HY HPC HPZ
          go_wp2_with (refine wpList_load_blk rfl 22 _ rfl _ rfl _ _ BI.out 16 5 rfl HIY.out ?_)
          refine HCB.out.mono ?_;rintro e w5 ⟨rfl, hb5⟩;have NB5 := hide (NBi.out.below hb5 u4);have HB5 := hide hb5;clear hb5 HCB
          go_wp2_with (refine wpList_store_blk rfl 22 _ _ rfl _ 0 (u8s Z) rfl rfl _ _ NB5.out (by rw [u8s_len, u8s_len, HZL.out, HNL.out]; simp) (by rw [u8s_len, HZL.out]; exact size16) (u8s_one _) ?_; intro w6 hN6 hg6 hs6; rw [lset_all _ _ (by rw [u8s_len, u8s_len, HZL.out, HNL.out])] at hN6)
          go_meet
          exact ⟨rfl, rfl, by rw [HZC.out]; exact hN6, (HGW.out.trans (grown_of_below HB5.out (Nat.le_refl _) _)).trans hg6⟩
    case rest =>
     obtain ⟨rfl, rfl, nbc, hgr⟩ := hcut;obtain ⟨pp, hpp⟩ : ∃ p, (a + i) % 16 = p := ⟨_, rfl⟩
     have w2 : ((a : Int) + (i : Int)) % 16 = (pp : Int) := by omega
     have w3 : ((a : Int) + (i : Int)).tmod 16 = (pp : Int) := by rw [Int.tmod_eq_emod_of_nonneg (by omega)]; omega
     have p0 : (0 : Int) ≤ (pp : Int) := by omega
     have p1 : (pp : Int) < 16 := by omega
     have p2 : pp < 16 := by omega
     have HPP := hide hpp;have HBL := hide (blockF_len HTB.out.2 HKL.out HKB.out (ctr_len q) (ctr_bytes q));have HBB2 := hide (blockF_bytes HTB.out.2 HKL.out HKB.out (ctr_len q) (ctr_bytes q));obtain ⟨Z, HZ⟩ : ∃ z, Hid (blockF T ks (ctr q) = z) := ⟨_, hide rfl⟩;rw [HZ.out] at nbc HBL HBB2;have HKey := hide (show keyAt T ks (a + i) = Z.getD pp 0 by rw [keyAt, HQ.out, HPP.out, HZ.out]);have HZM := hide (show ∀ m : Nat, (q : Int) = m → Z = blockF T ks (ctr m) from fun m hm => by rw [show m = q by omega]; exact HZ.out.symm);obtain ⟨z, HZp⟩ : ∃ z, Hid (Z.getD pp 0 = z) := ⟨_, hide rfl⟩;have NBc := hide nbc;have OBc := hide (OB.out.kept hgr (.inr (by simp [Value.ownBlock]; omega)));have TBc := hide (TB.out.grown hgr (by simp <;> omega));have KBc := hide (KB.out.grown hgr (by simp <;> omega));have HBc := hide (HBW.out.grown hgr HBW.out.size (by intro k hk; simp at hk; omega));have c1 := blk_get NBc.out pp z (by rw [HBL.out]; exact p2) HZp.out;have c2 := OBc.out.cellAt i (by omega);rw [← OB.out.cellAt i (by omega), csrc] at c2;have f2 := OBc.out.frozenAt i;clear hpp nbc hgr csrc HZ w1
     go_wp2_with fail
     go_region
     all_goals
      go_wp2_with fail
      go_roundw
      case measure => simp [intOf]; omega
      case rel =>
       have e1 : (i : Int) + 1 = ((i + 1 : Nat) : Int) := by omega
       obtain ⟨so, sg⟩ := OBc.out.stored i (.int .u8 (X8 x z));rw [u8s_set] at so;refine ⟨i + 1, (q : Int), Z, xs.set i (X8 x z), by omega, by rw [e1], rfl, by omega, by omega, by simpa using HXL.out, fun j hj => ?_, HBL.out, HBB2.out, HZM.out, (TBc.out.grown sg (by simp <;> omega)).drew, (KBc.out.grown sg (by simp <;> omega)).drew, so.drew, (NBc.out.grown sg (by simp <;> omega)).drew, (HBc.out.setCell (p := ⟨go, i, none⟩) (by simp; omega) _).drew⟩;rw [getD_set' _ _ _ _ (by rw [HXL.out]; exact hit)]
       by_cases e : i = j
       · subst e
         rw [if_pos rfl, if_pos (by omega), streamAt, HXb.out, HKey.out, HZp.out]
       · rw [if_neg e, HX.out j hj]
         by_cases h1 : j < i
         · rw [if_pos h1, if_pos (by omega)]
         · rw [if_neg h1, if_neg (by omega)]
  · have HRL := hide (show RES.length = n by rw [← HRES.out, streamF_len, HN.out])
    have HXR := hide (show xs = RES from ext_getD (by rw [HXL.out, HRL.out]) fun j hj => by rw [HXL.out] at hj; rw [HX.out j hj, if_pos (by omega), ← HRES.out, streamF_get T ks a b j (by rw [HN.out]; exact hj)])
    have HOWN := hide (show Own8 wo w.heap.size (.slice A9 n c9) RES by
     have h1 : wo.ownsRow w.heap.size 5 1 (.slice A9 n c9) n (u8s xs) := own_more OB.out (by omega);rw [HXR.out] at h1;unfold Own8;rw [HRL.out]
     exact h1)
    clear HXR HX HRES obb
    go_wp2_with fail
    go_ret
    exact ⟨_, rfl, HOWN.out, HBW.out⟩
end Go.Proofs.YthdjgebbjogmiaaGreatDoor
