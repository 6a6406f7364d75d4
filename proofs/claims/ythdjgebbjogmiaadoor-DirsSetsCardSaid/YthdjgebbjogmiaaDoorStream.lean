/- aes.Stream, walked. -/
import Derived.Test.YthdjgebbjogmiaaDoorJoin16
import Derived.Test.YthdjgebbjogmiaaDoorJoin14
import Derived.Test.YthdjgebbjogmiaaDoorJoin1
import Derived.Deep.CutRange
set_option linter.unusedVariables false
set_option linter.unusedSimpArgs false
namespace Go.Proofs.YthdjgebbjogmiaaDoor
open Go Go.RowKit

theorem getD_rep (n j : Nat) : (List.replicate n (0 : Int)).getD j 0 = 0 := by
 rw [List.getD_eq_getElem?_getD, List.getElem?_replicate]; split <;> rfl

set_option maxRecDepth 100000 in
set_option maxHeartbeats 400000 in
theorem Stream_blk (key b : List Int) (at_ : Int) (v : Value) (w : World) (hk : key.length = 16) (bk : Bytes key) (ha : -9223372036854775808 ≤ at_ ∧ at_ ≤ 9223372036854775807) (hv : Bs w w.heap.size v b) (hn : b.length ≤ 16000) (hb : Bytes b) :
 Calls Tryd.prog 77 #[.agg (u8s key).toArray, .int .i64 at_, v] w fun e w' => ∃ g, e = .returned (.slice (some ⟨g, 0, none⟩) b.length b.length) ∧ w.heap.size ≤ g ∧ Blk w' g 5 (u8s (streamF boxTab (ExpandF key) (atF at_) b)) ∧ Below w.heap.size w w' := by
 obtain ⟨T, HT⟩ : ∃ T, Hid (boxTab = T) := ⟨_, hide rfl⟩
 have HTB := hide (show byteL T by rw [← HT.out]; exact tab_bytes)
 have HBX := hide (show ∀ w : World, Calls Tryd.prog 89 #[] w fun e w' => e = .returned (.agg (u8s T).toArray) ∧ Below w.heap.size w w' by rw [← HT.out]; exact box_any)
 have HK := hide hk
 have HBK := hide bk
 have HV := hide hv
 have HBB := hide hb
 have HIK := hide (show (Tryd.prog.info? 23).map (·.size) = some (u8s key).length by rw [u8s_len, hk]; kernel_rfl)
 have HI256 := hide (show (Tryd.prog.info? 88).map (·.size) = some (u8s T).length by rw [u8s_len, HTB.out.1]; exact size256)
 obtain ⟨ks, HKS⟩ : ∃ x, Hid (ExpandF key = x) := ⟨_, hide rfl⟩
 have HKL := hide (show ks.length = 176 by rw [← HKS.out]; exact ExpandF_len hk bk)
 have HKB := hide (show Bytes ks by rw [← HKS.out]; exact ExpandF_bytes hk bk)
 have HEX := hide (show ∀ (tb : Nat) (w : World), Blk w tb 88 (u8s T) → tb < w.heap.size → Calls Tryd.prog 90 #[.agg (u8s key).toArray, .pointer (some ⟨tb, 0, none⟩)] w fun e w' => e = .returned (.agg (u8s ks).toArray) ∧ Below w.heap.size w w' by
  intro tb w h1 h2; rw [← HKS.out, ExpandF, HT.out]; exact expand_any T key tb w HTB.out HK.out HBK.out h1 h2)
 have HI176 := hide (show (Tryd.prog.info? 90).map (·.size) = some (u8s ks).length by rw [u8s_len, HKL.out]; exact size176)
 rw [HT.out, HKS.out]
 obtain ⟨RES, HRES⟩ : ∃ x, Hid (streamF T ks (atF at_) b = x) := ⟨_, hide rfl⟩
 rw [HRES.out]
 clear HKS HT
 obtain ⟨a, HAF⟩ : ∃ a, Hid (atF at_ = a) := ⟨_, hide rfl⟩
 rw [HAF.out] at HRES
 have ha30 : a ≤ 1073741824 := by rw [← HAF.out]; exact atF_le _
 have HAI := hide (show max 0 (min at_ 1073741824) = (a : Int) by rw [← HAF.out]; unfold atF; omega)
 obtain ⟨A, cp, rfl, hc1, hc2, hcs⟩ := hv.open_
 unfold maxLen at hc2
 have HCS := hide hcs
 obtain ⟨n, HN⟩ : ∃ n, Hid (b.length = n) := ⟨_, hide rfl⟩
 rw [HN.out] at hn hc1 HCS HV
 rw [HN.out]
 clear hk bk hv hb hcs
 obtain ⟨ha1, ha2⟩ := ha
 go_enter Tryd.func77, Tryd.ntmps77
 go_upto_region 1 with fail
 go_cut [1] from 18 to 20 (fun v1 wx => v1 = .int .i64 (a : Int) ∧ wx = w.alloc (.cells (u8s key).toArray 23))
 case first =>
  go_wp2_with fail
  all_goals
   go_meet
   exact ⟨by have h := HAI.out; refine congrArg (Value.int .i64) ?_; omega, rfl⟩
 case rest =>
 obtain ⟨rfl, rfl⟩ := hcut
 obtain ⟨wb, HW⟩ : ∃ wb, Hid (w.alloc (.cells (u8s key).toArray 23) = wb) := ⟨_, hide rfl⟩
 have B1 := hide (show Blk wb w.heap.size 23 (u8s key) by rw [← HW.out]; exact Blk.new w 23 (u8s key))
 have HB := hide (show Below w.heap.size w wb by rw [← HW.out]; exact (Below.refl w.heap.size w).alloc (Nat.le_refl _) _)
 have HSZ := hide (show wb.heap.size = w.heap.size + 1 by rw [← HW.out]; simp)
 rw [HW.out]
 clear HW
 go_wp2_with fail
 refine (HBX.out _).mono ?_
 rintro e w1 ⟨rfl, hb1⟩
 have HB1 := hide hb1
 have hs1 := hb1.size
 have HSZ1 := hide (show w.heap.size + 1 ≤ w1.heap.size by have := HSZ.out; omega)
 clear hb1 hs1
 go_wp2_with (first | (refine wpList_alloc_blk rfl 88 rfl _ zero256 ?_; intro w2 b2 hb2 hs2; have A2 := hide b2; have HA2 := hide hb2; have HS2 := hide hs2; clear b2 hb2 hs2) | (refine wpList_store_blk rfl 88 _ _ rfl _ 0 (u8s T) rfl rfl _ _ A2.out (by rw [u8s_len, u8s_len, HTB.out.1]; simp) HI256.out (u8s_one _) ?_; intro w3 b3 hg3 hs3; rw [lset_all _ _ (by rw [u8s_len, u8s_len, HTB.out.1]; simp)] at b3; have A3 := hide b3; have HG3 := hide hg3; have HS3 := hide hs3; have K3 := hide (((B1.out.below HB1.out B1.out.lt).below HA2.out (by have := HSZ1.out; omega)).grown hg3 (by have := HSZ1.out; simp <;> omega)); clear b3 hg3 hs3) | (refine wpList_load_blk rfl 23 _ rfl _ rfl _ _ K3.out 16 5 rfl HIK.out ?_))
 have htl : w1.heap.size < w3.heap.size := by have := HS2.out; have := HS3.out; omega
 refine (HEX.out w1.heap.size w3 A3.out htl).mono ?_
 rintro e w4 ⟨rfl, hb4⟩
 have hs4 := hb4.size
 have T4 := hide (A3.out.below hb4 htl)
 have HB4 := hide (show Below w.heap.size w w4 by
  have hz1 := HSZ1.out
  have hz := HSZ.out
  have H1 : Below w.heap.size w w1 := HB.out.trans (HB1.out.mono (by omega))
  have H2 : Below w.heap.size w w2 := H1.trans (HA2.out.mono (by omega))
  have H3 : Below w.heap.size w w3 := H2.grown HG3.out H2.size (by intro k hk; simp at hk; omega)
  exact H3.trans (hb4.mono (by omega)))
 have hz1 := HSZ1.out
 clear hb4 HSZ HSZ1 HB HB1 HA2 HG3 HS2 HS3 K3 A3 A2 B1
 obtain ⟨tb, HTBN⟩ : ∃ x, Hid (w1.heap.size = x) := ⟨_, hide rfl⟩
 rw [HTBN.out] at T4 htl hz1
 rw [HTBN.out]
 go_wp2_with (first | (refine wpList_alloc_blk rfl 90 rfl _ zero176 ?_; intro w5 b5 hb5 hs5; have A5 := hide b5; have HA5 := hide hb5; have HS5 := hide hs5; clear b5 hb5 hs5) | (refine wpList_store_blk rfl 90 _ _ rfl _ 0 (u8s ks) rfl rfl _ _ A5.out (by rw [u8s_len, u8s_len, HKL.out]; simp) HI176.out (u8s_one _) ?_; intro w6 b6 hg6 hs6; rw [lset_all _ _ (by rw [u8s_len, u8s_len, HKL.out]; simp)] at b6; have A6 := hide b6; have HG6 := hide hg6; have HS6 := hide hs6; clear b6 hg6 hs6) | (refine wpList_make_bytes rfl _ _ rfl .i64 .i64 n n rfl rfl (Nat.le_refl _) (by omega) ?_; intro w7 b7 hb7 hs7; have A7 := hide b7; have HA7 := hide hb7; have HS7 := hide hs7; clear b7 hb7 hs7) | (refine wpList_alloc_blk rfl 22 rfl _ zero16 ?_; intro w8 b8 hb8 hs8; have A8 := hide b8; have HA8 := hide hb8; have HS8 := hide hs8; clear b8 hb8 hs8))
 have hz4 := hs4
 have s5 := HS5.out
 have s6 := HS6.out
 have s7 := HS7.out
 have s8 := HS8.out
 have TB := hide ((((T4.out.below HA5.out (by omega)).grown HG6.out (by simp <;> omega)).below HA7.out (by omega)).below HA8.out (by omega))
 have KB := hide ((A6.out.below HA7.out (by omega)).below HA8.out (by omega))
 have OB := hide (A7.out.below HA8.out (by omega))
 have NB := A8
 have H5 : Below w.heap.size w w5 := HB4.out.trans (HA5.out.mono (by omega))
 have H6 : Below w.heap.size w w6 := H5.grown HG6.out H5.size (by intro k hk; simp at hk; omega)
 have H7 : Below w.heap.size w w7 := H6.trans (HA7.out.mono (by omega))
 have HB8 := hide (H7.trans (HA8.out.mono (by omega)))
 have hk5 : w4.heap.size < w6.heap.size := by omega
 have hk6 : w6.heap.size < w7.heap.size := by omega
 have hk7 : w7.heap.size < w8.heap.size := by omega
 have hk4 : tb < w4.heap.size := by omega
 have hk3 : w.heap.size < tb := by omega
 clear H5 H6 H7 s5 s6 s7 s8 hz4 hs4 HA5 HG6 HA7 HA8 HS5 HS6 HS7 HS8 A5 A6 A7 A8 T4 HB4 htl hz1 HTBN
 obtain ⟨kb, HKBN⟩ : ∃ x, Hid (w4.heap.size = x) := ⟨_, hide rfl⟩
 obtain ⟨go, HGO⟩ : ∃ x, Hid (w6.heap.size = x) := ⟨_, hide rfl⟩
 obtain ⟨gn, HGN⟩ : ∃ x, Hid (w7.heap.size = x) := ⟨_, hide rfl⟩
 rw [HKBN.out] at KB hk5 hk4
 rw [HGO.out] at OB hk5 hk6
 rw [HGN.out] at NB hk6 hk7
 rw [HKBN.out, HGO.out, HGN.out]
 clear HKBN HGO HGN
 have HZ16 := hide (show (List.replicate 16 (0 : Int)).length = 16 ∧ Bytes (List.replicate 16 (0 : Int)) from ⟨rfl, fun x hx => by have := (List.mem_replicate.1 hx).2; subst this; omega⟩)
 go_loopw [11, 29] (fun vh vi wr => ∃ (i : Nat) (h : Int) (now xs : List Int), i ≤ n ∧ vi = .int .i64 i ∧ vh = .int .i64 h ∧ -1 ≤ h ∧ h ≤ 1073741824 ∧ xs.length = n ∧ (∀ j, j < n → xs.getD j 0 = if j < i then streamAt T ks a b j else 0) ∧ now.length = 16 ∧ Bytes now ∧ (∀ m : Nat, h = m → now = blockF T ks (ctr m)) ∧
  Blk wr tb 88 (u8s T) ∧ Blk wr kb 90 (u8s ks) ∧ Blk wr go 5 (u8s xs) ∧ Blk wr gn 22 (u8s now) ∧ Below w.heap.size w wr) (fun _ vi _ => n - (intOf vi).toNat)
 case atStart => exact ⟨0, -1, List.replicate 16 0, List.replicate n 0, by omega, rfl, rfl, by omega, by omega, by simp, fun j _ => by rw [if_neg (by omega), getD_rep], HZ16.out.1, HZ16.out.2, fun m hm => by omega, TB.out, KB.out, OB.out, NB.out, HB8.out⟩
 case round =>
  clear TB KB OB NB HB8 HZ16
  obtain ⟨i, h, now, xs, hi, rfl, rfl, hh1, hh2, hl, hx, hnl, hnb, hnow, tbb, kbb, obb, nbb, hbel⟩ := hrel
  obtain ⟨wo, rfl⟩ : ∃ wo : World, wo = wr := ⟨_, rfl⟩
  have HXL := hide hl
  have HX := hide hx
  have HNL := hide hnl
  have HNB := hide hnb
  have HNOW := hide hnow
  have TB := hide tbb
  have KB := hide kbb
  have OB := hide obb
  have NB := hide nbb
  have HBW := hide hbel
  have t1 := tbb.lt
  have t2 := kbb.lt
  have t3 := obb.lt
  have t4 := nbb.lt
  have hws := hbel.size
  clear hl hx hnl hnb hnow tbb kbb obb nbb hbel
  by_cases hit : i < n
  · obtain ⟨sb, so, rfl, hsb, hsc⟩ := HCS.out (by omega)
    obtain ⟨x, HXb⟩ : ∃ x, Hid (b.getD i 0 = x) := ⟨_, hide rfl⟩
    have csrc := (HBW.out.cell (p := ⟨sb, so + i, none⟩) hsb).trans (hsc i x hit HXb.out)
    have hx8 := HBB.out.getD i
    rw [HXb.out] at hx8
    obtain ⟨x0, x1⟩ := hx8
    obtain ⟨q, hq⟩ : ∃ q, (a + i) / 16 = q := ⟨_, rfl⟩
    have w1 : ((a : Int) + (i : Int)) / 16 = (q : Int) := by omega
    have i0 : (0 : Int) ≤ (i : Int) := by omega
    have i1 : (i : Int) < (n : Int) := by omega
    have a0 : (0 : Int) ≤ (a : Int) := by omega
    have hq30 : q ≤ 67200000 := by omega
    have HQ := hide hq
    clear hq hsc
    go_upto_if 40 with fail
    simp only [w1]
    clear w1
    go_cut [11, 15, 16, 17, 29] from 29 to 66 (fun vh _ _ _ vi wx => vh = .int .i64 (q : Int) ∧ vi = .int .i64 i ∧ Blk wx gn 22 (u8s (blockF T ks (ctr q))) ∧ wo.grownBy wx (some gn))
    case first =>
     by_cases hqh : h = (q : Int)
     · subst hqh
       go_wp2_with fail
       go_meet
       exact ⟨rfl, rfl, by rw [← HNOW.out q rfl]; exact NB.out, World.grownBy.refl _ _⟩
     · have hbq : ((q : Int) != h) = true := by simp; exact fun e => hqh e.symm
       clear hqh
       go_wp2_with (refine wpList_alloc_blk rfl 22 rfl _ zero16 ?_; intro wa ba hba hsa; have BA := hide ba; have HBA := hide hba; have HSA := hide hsa; clear ba hba hsa)
       clear hbq
       go_loopw [16, 17] (fun vj vm wq => ∃ (k : Nat) (xs : List Int), k ≤ 16 ∧ vj = .int .i64 (15 - (k : Int)) ∧ vm = .int .i64 ((q / 256 ^ k : Nat) : Int) ∧ xs.length = 16 ∧ (∀ j, j < 16 → xs.getD j 0 = if 16 ≤ j + k then ctrAt q j else 0) ∧ Blk wq wo.heap.size 22 (u8s xs) ∧ Below wo.heap.size wo wq) (fun vj _ _ => (intOf vj + 1).toNat)
       case atStart => exact ⟨0, List.replicate 16 0, by omega, rfl, by simp, by simp, fun j hj => by rw [if_neg (by omega), getD_rep], BA.out, HBA.out⟩
       case round =>
        clear BA HBA HSA
        obtain ⟨k, ys, hk, rfl, rfl, hyl, hy, bin, hbin⟩ := hrel
        have HYL := hide hyl
        have HY := hide hy
        have BI := hide bin
        have HBI := hide hbin
        clear hyl hy bin hbin
        obtain ⟨m, HM⟩ : ∃ m, Hid (q / 256 ^ k = m) := ⟨_, hide rfl⟩
        have hm30 : m ≤ 67200000 := by rw [← HM.out]; exact Nat.le_trans (Nat.div_le_self _ _) hq30
        rw [HM.out]
        by_cases hkt : k < 16
        · obtain ⟨jn, hjn⟩ : ∃ j, 15 - k = j := ⟨_, rfl⟩
          have ej : (15 : Int) - (k : Int) = (jn : Int) := by omega
          have j0 : (0 : Int) ≤ (jn : Int) := by omega
          have j1 : (jn : Int) < 16 := by omega
          have j2 : jn < 16 := by omega
          have ejm : (jn : Int) - 1 = 15 - ((k + 1 : Nat) : Int) := by omega
          have hkj : jn + k = 15 := by omega
          have m0 : (0 : Int) ≤ (m : Int) := by omega
          rw [ej]
          have HEJ := hide ejm
          have HKJ := hide hkj
          obtain ⟨old, HOLD⟩ : ∃ x, Hid (ys.getD jn 0 = x) := ⟨_, hide rfl⟩
          have c3 := blk_get BI.out jn old (by rw [HYL.out]; omega) HOLD.out
          have f3 := BI.out.frozen jn
          clear ej ejm hkj hjn
          go_wp2_with fail
          go_roundw
          case measure => simp [intOf] <;> omega
          case rel =>
           refine ⟨k + 1, ys.set jn ((m : Int) % 256), by omega, by rw [HEJ.out], ?_, by simpa using HYL.out, fun j hj => ?_, blk_set BI.out jn _, HBI.out.setCell (p := ⟨wo.heap.size, jn, none⟩) (Nat.le_refl _) _⟩
           · rw [Nat.pow_succ, ← Nat.div_div_eq_div_mul, HM.out]; refine congrArg (Value.int .i64) ?_; omega
           · have hkj := HKJ.out
             rw [getD_set' _ _ _ _ (by rw [HYL.out]; exact j2)]
             by_cases e : jn = j
             · subst e
               rw [if_pos rfl, if_pos (by omega), ctrAt, show 15 - jn = k by omega, HM.out]; omega
             · rw [if_neg e, HY.out j hj]
               by_cases h1 : 16 ≤ j + k
               · rw [if_pos h1, if_pos (by omega)]
               · rw [if_neg h1, if_neg (by omega)]
        · have HYC := hide (show ys = ctr q from ext_getD (by rw [HYL.out, ctr_len]) fun j hj => by rw [HYL.out] at hj; rw [HY.out j hj, if_pos (by omega), ctr_get q j hj])
          have hk15 : ¬ (0 : Int) ≤ 15 - (k : Int) := by omega
          have HIY := hide (show (Tryd.prog.info? 22).map (·.size) = some (u8s ys).length by rw [u8s_len, HYL.out]; exact size16)
          have HYB := hide (show Bytes ys by rw [HYC.out]; exact ctr_bytes q)
          have hilt := BI.out.lt
          have TBi := hide (TB.out.below HBI.out t1)
          have KBi := hide (KB.out.below HBI.out t2)
          have u1 := TBi.out.lt
          have u2 := KBi.out.lt
          have NBi := hide (NB.out.below HBI.out t4)
          have u4 := NBi.out.lt
          obtain ⟨Z, HZ⟩ : ∃ z, Hid (blockF T ks ys = z) := ⟨_, hide rfl⟩
          have HZL := hide (show Z.length = 16 by rw [← HZ.out]; exact blockF_len HTB.out.2 HKL.out HKB.out HYL.out HYB.out)
          have HCB := hide (show Calls Tryd.prog 91 #[.pointer (some ⟨kb, 0, none⟩), .pointer (some ⟨tb, 0, none⟩), .agg (u8s ys).toArray] wr fun e w' => e = .returned (.agg (u8s Z).toArray) ∧ Below wr.heap.size wr w' by
           rw [← HZ.out]; exact block_any T ks ys kb tb wr HTB.out HKL.out HKB.out HYL.out HYB.out KBi.out TBi.out u2 u1)
          have HZC := hide (show blockF T ks (ctr q) = Z by rw [← HZ.out, ← HYC.out])
          clear HZ HYC HY
          go_wp2_with (refine wpList_load_blk rfl 22 _ rfl _ rfl _ _ BI.out 16 5 rfl HIY.out ?_)
          refine HCB.out.mono ?_
          rintro e w5 ⟨rfl, hb5⟩
          have NB5 := hide (NBi.out.below hb5 u4)
          have HB5 := hide hb5
          clear hb5 HCB
          go_wp2_with (refine wpList_store_blk rfl 22 _ _ rfl _ 0 (u8s Z) rfl rfl _ _ NB5.out (by rw [u8s_len, u8s_len, HZL.out, HNL.out]; simp) (by rw [u8s_len, HZL.out]; exact size16) (u8s_one _) ?_; intro w6 hN6 hg6 hs6; rw [lset_all _ _ (by rw [u8s_len, u8s_len, HZL.out, HNL.out])] at hN6)
          go_meet
          exact ⟨rfl, rfl, by rw [HZC.out]; exact hN6, ((grown_of_below HBI.out (Nat.le_refl _) _).trans (grown_of_below HB5.out (Nat.le_refl _) _)).trans hg6⟩
    case rest =>
     obtain ⟨rfl, rfl, nbc, hgr⟩ := hcut
     obtain ⟨pp, hpp⟩ : ∃ p, (a + i) % 16 = p := ⟨_, rfl⟩
     have w2 : ((a : Int) + (i : Int)) % 16 = (pp : Int) := by omega
     have p0 : (0 : Int) ≤ (pp : Int) := by omega
     have p1 : (pp : Int) < 16 := by omega
     have p2 : pp < 16 := by omega
     have HPP := hide hpp
     have HBL := hide (blockF_len HTB.out.2 HKL.out HKB.out (ctr_len q) (ctr_bytes q))
     have HBB2 := hide (blockF_bytes HTB.out.2 HKL.out HKB.out (ctr_len q) (ctr_bytes q))
     obtain ⟨Z, HZ⟩ : ∃ z, Hid (blockF T ks (ctr q) = z) := ⟨_, hide rfl⟩
     rw [HZ.out] at nbc HBL HBB2
     have HKey := hide (show keyAt T ks (a + i) = Z.getD pp 0 by rw [keyAt, HQ.out, HPP.out, HZ.out])
     have HZM := hide (show ∀ m : Nat, (q : Int) = m → Z = blockF T ks (ctr m) from fun m hm => by rw [show m = q by omega]; exact HZ.out.symm)
     obtain ⟨z, HZp⟩ : ∃ z, Hid (Z.getD pp 0 = z) := ⟨_, hide rfl⟩
     have NBc := hide nbc
     have OBc := hide (OB.out.grown hgr (by simp <;> omega))
     have TBc := hide (TB.out.grown hgr (by simp <;> omega))
     have KBc := hide (KB.out.grown hgr (by simp <;> omega))
     have HBc := hide (HBW.out.grown hgr HBW.out.size (by intro k hk; simp at hk; omega))
     obtain ⟨old, HOLD⟩ : ∃ x, Hid (xs.getD i 0 = x) := ⟨_, hide rfl⟩
     have c1 := blk_get NBc.out pp z (by rw [HBL.out]; exact p2) HZp.out
     have c2 := blk_get OBc.out i old (by rw [HXL.out]; exact hit) HOLD.out
     have f2 := OBc.out.frozen i
     clear hpp nbc hgr csrc HZ
     go_wp2_with fail
     go_roundw
     case measure => simp [intOf]; omega
     case rel =>
      have e1 : (i : Int) + 1 = ((i + 1 : Nat) : Int) := by omega
      refine ⟨i + 1, (q : Int), Z, xs.set i (X8 x z), by omega, by rw [e1], rfl, by omega, by omega, by simpa using HXL.out, fun j hj => ?_, HBL.out, HBB2.out, HZM.out, TBc.out.far (p := ⟨go, i, none⟩) (by simp; omega) _, KBc.out.far (p := ⟨go, i, none⟩) (by simp; omega) _, blk_set OBc.out i _, NBc.out.far (p := ⟨go, i, none⟩) (by simp; omega) _, HBc.out.setCell (p := ⟨go, i, none⟩) (by simp; omega) _⟩
      rw [getD_set' _ _ _ _ (by rw [HXL.out]; exact hit)]
      by_cases e : i = j
      · subst e
        rw [if_pos rfl, if_pos (by omega), streamAt, HXb.out, HKey.out, HZp.out]
      · rw [if_neg e, HX.out j hj]
        by_cases h1 : j < i
        · rw [if_pos h1, if_pos (by omega)]
        · rw [if_neg h1, if_neg (by omega)]
  · have HRL := hide (show RES.length = n by rw [← HRES.out, streamF_len, HN.out])
    have HXR := hide (show xs = RES from ext_getD (by rw [HXL.out, HRL.out]) fun j hj => by rw [HXL.out] at hj; rw [HX.out j hj, if_pos (by omega), ← HRES.out, streamF_get T ks a b j (by rw [HN.out]; exact hj)])
    have HOWN := hide (show Blk wo go 5 (u8s RES) by rw [← HXR.out]; exact OB.out)
    have hwgo : w.heap.size ≤ go := by omega
    clear HXR HX HRES
    go_wp2_with fail
    go_ret
    exact ⟨_, rfl, hwgo, HOWN.out, HBW.out⟩

theorem Stream_any (key b : List Int) (at_ : Int) (v : Value) (w : World) (hk : key.length = 16) (bk : Bytes key) (ha : -9223372036854775808 ≤ at_ ∧ at_ ≤ 9223372036854775807) (hv : Bs w w.heap.size v b) (hn : b.length ≤ 16000) (hb : Bytes b) :
 Calls Tryd.prog 77 #[.agg (u8s key).toArray, .int .i64 at_, v] w fun e w' => ∃ v', e = .returned v' ∧ Own8 w' w.heap.size v' (streamF boxTab (ExpandF key) (atF at_) b) ∧ Below w.heap.size w w' :=
 (Stream_blk key b at_ v w hk bk ha hv hn hb).mono fun e w' ⟨g, he, hg, hB, hbel⟩ => ⟨_, he, by
  have h := Own8.of_blk (base := w.heap.size) hB hg (by rw [streamF_len]; unfold maxLen; omega)
  rw [streamF_len] at h
  exact h, hbel⟩
end Go.Proofs.YthdjgebbjogmiaaDoor
