/- aes.Block, aes.Expand, and the references' twins: walked. -/
import Derived.Test.YtoicohcomjnnfaaAesBlk
import Derived.Test.YtoicohcomjnnfaaAesRefBlk
import Derived.Test.YtoicohcomjnnfaaAesKey
import Derived.Test.YtoicohcomjnnfaaAesRefKey
import Derived.Test.YtoicohcomjnnfaaAesBox
import Derived.Test.YtoicohcomjnnfaaAesRefBox
import Derived.Test.YtoicohcomjnnfaaAesTab
namespace Go.Proofs.Ytoicohcomjnnfaa
open Go Go.RowKit

theorem refbox_tab (w : World) : Calls Try.prog 50 #[] w fun e w' => e = .returned (.agg (u8s boxTab).toArray) ∧ Below w.heap.size w w' := by
  rw [← tab_eq]; exact refbox_any w
theorem boxTab_byteL : byteL boxTab := tab_bytes
/-- The answers. -/
def ExpandF (key : List Int) : List Int := keyF boxTab key
def BlockF (key inp : List Int) : List Int := blockF boxTab (keyF boxTab key) inp
theorem ExpandF_len {key : List Int} (h : key.length = 16) (hb : Bytes key) : (ExpandF key).length = 176 := keyF_len tab_bytes.2 h hb
theorem ExpandF_bytes {key : List Int} (h : key.length = 16) (hb : Bytes key) : Bytes (ExpandF key) := keyF_bytes tab_bytes.2 h hb
theorem BlockF_len {key inp : List Int} (h : key.length = 16) (hb : Bytes key) (hi : inp.length = 16) (bi : Bytes inp) : (BlockF key inp).length = 16 := blockF_len tab_bytes.2 (ExpandF_len h hb) (ExpandF_bytes h hb) hi bi
theorem BlockF_bytes {key inp : List Int} (h : key.length = 16) (hb : Bytes key) (hi : inp.length = 16) (bi : Bytes inp) : Bytes (BlockF key inp) := blockF_bytes tab_bytes.2 (ExpandF_len h hb) (ExpandF_bytes h hb) hi bi

set_option maxRecDepth 100000 in
set_option maxHeartbeats 2000000 in
theorem Block_any (key inp : List Int) (w : World) (hk : key.length = 16) (bk : Bytes key) (hi : inp.length = 16) (bi : Bytes inp) :
    Calls Try.prog 27 #[.agg (u8s key).toArray, .agg (u8s inp).toArray] w fun e w' => e = .returned (.agg (u8s (BlockF key inp)).toArray) ∧ Below w.heap.size w w' := by
  have HRL := hide (BlockF_len hk bk hi bi)
  obtain ⟨RES, HRES⟩ : ∃ x, Hid (BlockF key inp = x) := ⟨_, hide rfl⟩
  rw [HRES.out]
  obtain ⟨T, HT⟩ : ∃ T, Hid (boxTab = T) := ⟨_, hide rfl⟩
  have HTB := hide (show byteL T by rw [← HT.out]; exact tab_bytes)
  rw [HRES.out] at HRL
  have HBX := hide (show ∀ w : World, Calls Try.prog 47 #[] w fun e w' => e = .returned (.agg (u8s T).toArray) ∧ Below w.heap.size w w' by rw [← HT.out]; exact box_any)
  have HK := hide hk
  have HBK := hide bk
  have HL := hide hi
  have HBI := hide bi
  have HI16 := hide (show (Try.prog.info? 42).map (·.size) = some (u8s inp).length by rw [u8s_len, hi]; exact size16)
  have HIK := hide (show (Try.prog.info? 43).map (·.size) = some (u8s key).length by rw [u8s_len, hk]; kernel_rfl)
  have HI256 := hide (show (Try.prog.info? 71).map (·.size) = some (u8s T).length by rw [u8s_len, HTB.out.1]; exact size256)
  obtain ⟨ks, HKS⟩ : ∃ x, Hid (keyF T key = x) := ⟨_, hide rfl⟩
  have HKL := hide (show ks.length = 176 by rw [← HKS.out]; exact keyF_len HTB.out.2 hk bk)
  have HKB := hide (show Bytes ks by rw [← HKS.out]; exact keyF_bytes HTB.out.2 hk bk)
  have HI176 := hide (show (Try.prog.info? 45).map (·.size) = some (u8s ks).length by rw [u8s_len, HKL.out]; exact size176)
  have HRB := hide (show blockF T ks inp = RES by rw [← HRES.out, ← HKS.out, ← HT.out]; rfl)
  have HIR := hide (show (Try.prog.info? 42).map (·.size) = some (u8s RES).length by rw [u8s_len, HRL.out]; exact size16)
  clear hk bk hi bi
  go_enter Try.func27, Try.ntmps27
  go_wp2_with fail
  obtain ⟨wb, HW⟩ : ∃ wb, Hid (((w.alloc (.cells (u8s key).toArray 43)).alloc (.cells (u8s inp).toArray 42)).alloc (.cells (u8s (List.replicate 16 0)).toArray 42) = wb) := ⟨_, hide rfl⟩
  have B1 := hide (show Blk wb w.heap.size 43 (u8s key) by rw [← HW.out]; exact ((Blk.new w 43 (u8s key)).alloc _).alloc _)
  have B2 := hide (show Blk wb (w.heap.size + 1) 42 (u8s inp) by rw [← HW.out]; have := (Blk.new (w.alloc (.cells (u8s key).toArray 43)) 42 (u8s inp)).alloc (.cells (u8s (List.replicate 16 0)).toArray 42); simpa using this)
  have B3 := hide (show Blk wb (w.heap.size + 1 + 1) 42 (u8s (List.replicate 16 0)) by rw [← HW.out]; have := Blk.new ((w.alloc (.cells (u8s key).toArray 43)).alloc (.cells (u8s inp).toArray 42)) 42 (u8s (List.replicate 16 0)); simpa using this)
  have HB := hide (show Below w.heap.size w wb by rw [← HW.out]; exact (((Below.refl w.heap.size w).alloc (Nat.le_refl _) _).alloc (by simp) _).alloc (by simp; omega) _)
  have HSZ := hide (show wb.heap.size = w.heap.size + 1 + 1 + 1 by rw [← HW.out]; simp)
  show Calls _ _ _ (((w.alloc (.cells (u8s key).toArray 43)).alloc (.cells (u8s inp).toArray 42)).alloc (.cells (u8s (List.replicate 16 0)).toArray 42)) _
  rw [HW.out]
  clear HW
  refine (HBX.out _).mono ?_
  rintro e w1 ⟨rfl, hb1⟩
  have HB1 := hide hb1
  have hs1 := hb1.size
  have HSZ1 := hide (show w.heap.size + 3 ≤ w1.heap.size by have := HSZ.out; omega)
  clear hb1 hs1
  go_wp2_with (first | (refine wpList_alloc_blk rfl 71 rfl _ zero256 ?_; intro w2 b2 hb2 hs2; have A2 := hide b2; have HA2 := hide hb2; have HS2 := hide hs2; clear b2 hb2 hs2) | (refine wpList_store_blk rfl 71 _ _ rfl _ 0 (u8s T) rfl rfl _ _ A2.out (by rw [u8s_len, u8s_len, HTB.out.1]; simp) HI256.out (u8s_one _) ?_; intro w3 b3 hg3 hs3; rw [lset_all _ _ (by rw [u8s_len, u8s_len, HTB.out.1]; simp)] at b3; have A3 := hide b3; have HG3 := hide hg3; have HS3 := hide hs3; have K3 := hide (((B1.out.below HB1.out B1.out.lt).below HA2.out (by have := HSZ1.out; omega)).grown hg3 (by have := HSZ1.out; simp <;> omega)); clear b3 hg3 hs3) | (refine wpList_load_blk rfl 43 _ rfl _ rfl _ _ K3.out 16 5 rfl HIK.out ?_))
  have htl : w1.heap.size < w3.heap.size := by have := HS2.out; have := HS3.out; omega
  refine (expand_any T key w1.heap.size w3 HTB.out HK.out HBK.out A3.out htl).mono ?_
  rintro e w4 ⟨rfl, hb4⟩
  have HB4 := hide hb4
  have hs4 := hb4.size
  rw [HKS.out]
  have T4 := hide (A3.out.below hb4 htl)
  have HSZ4 := hide (show w.heap.size + 4 ≤ w4.heap.size by have := HSZ1.out; omega)
  clear hb4
  go_wp2_with (first | (refine wpList_alloc_blk rfl 45 rfl _ zero176 ?_; intro w5 b5 hb5 hs5; have A5 := hide b5; have HA5 := hide hb5; have HS5 := hide hs5; clear b5 hb5 hs5) | (refine wpList_store_blk rfl 45 _ _ rfl _ 0 (u8s ks) rfl rfl _ _ A5.out (by rw [u8s_len, u8s_len, HKL.out]; simp) HI176.out (u8s_one _) ?_; intro w6 b6 hg6 hs6; rw [lset_all _ _ (by rw [u8s_len, u8s_len, HKL.out]; simp)] at b6; have A6 := hide b6; have HG6 := hide hg6; have HS6 := hide hs6; have I6 := hide ((((((B2.out.below HB1.out B2.out.lt).below HA2.out (by have := HSZ1.out; omega)).grown HG3.out (by have := HSZ1.out; simp <;> omega)).below HB4.out (by have := HSZ1.out; omega)).below HA5.out (by have := HSZ1.out; omega)).grown hg6 (by have := HSZ1.out; simp <;> omega)); clear b6 hg6 hs6) | (refine wpList_load_blk rfl 42 _ rfl _ rfl _ _ I6.out 16 5 rfl HI16.out ?_))
  have hkl : w4.heap.size < w6.heap.size := by have := HS5.out; have := HS6.out; omega
  have htl6 : w1.heap.size < w6.heap.size := by omega
  have T6 := hide ((T4.out.below HA5.out (by omega)).grown HG6.out (by simp <;> omega))
  refine (block_any T ks inp w4.heap.size w1.heap.size w6 HTB.out HKL.out HKB.out HL.out HBI.out A6.out T6.out hkl htl6).mono ?_
  rintro e w7 ⟨rfl, hb7⟩
  rw [HRB.out]
  have O6 := ((((((B3.out.below HB1.out B3.out.lt).below HA2.out (by have := HSZ1.out; omega)).grown HG3.out (by have := HSZ1.out; simp <;> omega)).below HB4.out (by have := HSZ1.out; omega)).below HA5.out (by have := HSZ1.out; omega)).grown HG6.out (by have := HSZ1.out; simp <;> omega))
  have O7 := hide (O6.below hb7 O6.lt)
  have hz1 := HSZ1.out
  have hz := HSZ.out
  have H1 : Below w.heap.size w w1 := HB.out.trans (HB1.out.mono (by omega))
  have H2 : Below w.heap.size w w2 := H1.trans (HA2.out.mono (by omega))
  have H3 : Below w.heap.size w w3 := H2.grown HG3.out H2.size (by intro k hk; simp at hk; omega)
  have H4 : Below w.heap.size w w4 := H3.trans (HB4.out.mono (by omega))
  have H5 : Below w.heap.size w w5 := H4.trans (HA5.out.mono (by omega))
  have H6 : Below w.heap.size w w6 := H5.grown HG6.out H5.size (by intro k hk; simp at hk; omega)
  have HB7 := hide (H6.trans (hb7.mono (by omega)))
  clear hz hz1 H1 H2 H3 H4 H5 H6 O6 hb7
  go_wp2_with (first | (refine wpList_store_blk rfl 42 _ _ rfl _ 0 (u8s RES) rfl rfl _ _ O7.out (by rw [u8s_len, u8s_len, HRL.out]; simp) HIR.out (u8s_one _) ?_; intro w8 hB hg8 hs8; rw [lset_all _ _ (by rw [u8s_len, u8s_len, HRL.out]; simp)] at hB) | (exact bodyPost_ret (v := .agg (u8s RES).toArray) (results_cell_row rfl _ _ (w.heap.size + 1 + 1) 42 _ (0, 0) _ rfl hB rfl rfl (by simpa using HIR.out)) rfl ⟨rfl, HB7.out.grown hg8 HB7.out.size (by intro k hk; simp at hk; omega)⟩))

set_option maxRecDepth 100000 in
set_option maxHeartbeats 2000000 in
theorem Block_ref (key inp : List Int) (w : World) (hk : key.length = 16) (bk : Bytes key) (hi : inp.length = 16) (bi : Bytes inp) :
    Calls Try.prog 28 #[.agg (u8s key).toArray, .agg (u8s inp).toArray] w fun e w' => e = .returned (.agg (u8s (BlockF key inp)).toArray) ∧ Below w.heap.size w w' := by
  have HRL := hide (BlockF_len hk bk hi bi)
  obtain ⟨RES, HRES⟩ : ∃ x, Hid (BlockF key inp = x) := ⟨_, hide rfl⟩
  rw [HRES.out]
  obtain ⟨T, HT⟩ : ∃ T, Hid (boxTab = T) := ⟨_, hide rfl⟩
  have HTB := hide (show byteL T by rw [← HT.out]; exact tab_bytes)
  rw [HRES.out] at HRL
  have HBX := hide (show ∀ w : World, Calls Try.prog 50 #[] w fun e w' => e = .returned (.agg (u8s T).toArray) ∧ Below w.heap.size w w' by rw [← HT.out]; exact refbox_tab)
  have HK := hide hk
  have HBK := hide bk
  have HL := hide hi
  have HBI := hide bi
  have HI16 := hide (show (Try.prog.info? 42).map (·.size) = some (u8s inp).length by rw [u8s_len, hi]; exact size16)
  have HIK := hide (show (Try.prog.info? 43).map (·.size) = some (u8s key).length by rw [u8s_len, hk]; kernel_rfl)
  have HI256 := hide (show (Try.prog.info? 71).map (·.size) = some (u8s T).length by rw [u8s_len, HTB.out.1]; exact size256)
  obtain ⟨ks, HKS⟩ : ∃ x, Hid (keyF T key = x) := ⟨_, hide rfl⟩
  have HKL := hide (show ks.length = 176 by rw [← HKS.out]; exact keyF_len HTB.out.2 hk bk)
  have HKB := hide (show Bytes ks by rw [← HKS.out]; exact keyF_bytes HTB.out.2 hk bk)
  have HI176 := hide (show (Try.prog.info? 45).map (·.size) = some (u8s ks).length by rw [u8s_len, HKL.out]; exact size176)
  have HRB := hide (show blockF T ks inp = RES by rw [← HRES.out, ← HKS.out, ← HT.out]; rfl)
  have HIR := hide (show (Try.prog.info? 42).map (·.size) = some (u8s RES).length by rw [u8s_len, HRL.out]; exact size16)
  clear hk bk hi bi
  go_enter Try.func28, Try.ntmps28
  go_wp2_with fail
  obtain ⟨wb, HW⟩ : ∃ wb, Hid (((w.alloc (.cells (u8s key).toArray 43)).alloc (.cells (u8s inp).toArray 42)).alloc (.cells (u8s (List.replicate 16 0)).toArray 42) = wb) := ⟨_, hide rfl⟩
  have B1 := hide (show Blk wb w.heap.size 43 (u8s key) by rw [← HW.out]; exact ((Blk.new w 43 (u8s key)).alloc _).alloc _)
  have B2 := hide (show Blk wb (w.heap.size + 1) 42 (u8s inp) by rw [← HW.out]; have := (Blk.new (w.alloc (.cells (u8s key).toArray 43)) 42 (u8s inp)).alloc (.cells (u8s (List.replicate 16 0)).toArray 42); simpa using this)
  have B3 := hide (show Blk wb (w.heap.size + 1 + 1) 42 (u8s (List.replicate 16 0)) by rw [← HW.out]; have := Blk.new ((w.alloc (.cells (u8s key).toArray 43)).alloc (.cells (u8s inp).toArray 42)) 42 (u8s (List.replicate 16 0)); simpa using this)
  have HB := hide (show Below w.heap.size w wb by rw [← HW.out]; exact (((Below.refl w.heap.size w).alloc (Nat.le_refl _) _).alloc (by simp) _).alloc (by simp; omega) _)
  have HSZ := hide (show wb.heap.size = w.heap.size + 1 + 1 + 1 by rw [← HW.out]; simp)
  show Calls _ _ _ (((w.alloc (.cells (u8s key).toArray 43)).alloc (.cells (u8s inp).toArray 42)).alloc (.cells (u8s (List.replicate 16 0)).toArray 42)) _
  rw [HW.out]
  clear HW
  refine (HBX.out _).mono ?_
  rintro e w1 ⟨rfl, hb1⟩
  have HB1 := hide hb1
  have hs1 := hb1.size
  have HSZ1 := hide (show w.heap.size + 3 ≤ w1.heap.size by have := HSZ.out; omega)
  clear hb1 hs1
  go_wp2_with (first | (refine wpList_alloc_blk rfl 71 rfl _ zero256 ?_; intro w2 b2 hb2 hs2; have A2 := hide b2; have HA2 := hide hb2; have HS2 := hide hs2; clear b2 hb2 hs2) | (refine wpList_store_blk rfl 71 _ _ rfl _ 0 (u8s T) rfl rfl _ _ A2.out (by rw [u8s_len, u8s_len, HTB.out.1]; simp) HI256.out (u8s_one _) ?_; intro w3 b3 hg3 hs3; rw [lset_all _ _ (by rw [u8s_len, u8s_len, HTB.out.1]; simp)] at b3; have A3 := hide b3; have HG3 := hide hg3; have HS3 := hide hs3; have K3 := hide (((B1.out.below HB1.out B1.out.lt).below HA2.out (by have := HSZ1.out; omega)).grown hg3 (by have := HSZ1.out; simp <;> omega)); clear b3 hg3 hs3) | (refine wpList_load_blk rfl 43 _ rfl _ rfl _ _ K3.out 16 5 rfl HIK.out ?_))
  have htl : w1.heap.size < w3.heap.size := by have := HS2.out; have := HS3.out; omega
  refine (expand_ref T key w1.heap.size w3 HTB.out HK.out HBK.out A3.out htl).mono ?_
  rintro e w4 ⟨rfl, hb4⟩
  have HB4 := hide hb4
  have hs4 := hb4.size
  rw [HKS.out]
  have T4 := hide (A3.out.below hb4 htl)
  have HSZ4 := hide (show w.heap.size + 4 ≤ w4.heap.size by have := HSZ1.out; omega)
  clear hb4
  go_wp2_with (first | (refine wpList_alloc_blk rfl 45 rfl _ zero176 ?_; intro w5 b5 hb5 hs5; have A5 := hide b5; have HA5 := hide hb5; have HS5 := hide hs5; clear b5 hb5 hs5) | (refine wpList_store_blk rfl 45 _ _ rfl _ 0 (u8s ks) rfl rfl _ _ A5.out (by rw [u8s_len, u8s_len, HKL.out]; simp) HI176.out (u8s_one _) ?_; intro w6 b6 hg6 hs6; rw [lset_all _ _ (by rw [u8s_len, u8s_len, HKL.out]; simp)] at b6; have A6 := hide b6; have HG6 := hide hg6; have HS6 := hide hs6; have I6 := hide ((((((B2.out.below HB1.out B2.out.lt).below HA2.out (by have := HSZ1.out; omega)).grown HG3.out (by have := HSZ1.out; simp <;> omega)).below HB4.out (by have := HSZ1.out; omega)).below HA5.out (by have := HSZ1.out; omega)).grown hg6 (by have := HSZ1.out; simp <;> omega)); clear b6 hg6 hs6) | (refine wpList_load_blk rfl 42 _ rfl _ rfl _ _ I6.out 16 5 rfl HI16.out ?_))
  have hkl : w4.heap.size < w6.heap.size := by have := HS5.out; have := HS6.out; omega
  have htl6 : w1.heap.size < w6.heap.size := by omega
  have T6 := hide ((T4.out.below HA5.out (by omega)).grown HG6.out (by simp <;> omega))
  refine (block_ref T ks inp w4.heap.size w1.heap.size w6 HTB.out HKL.out HKB.out HL.out HBI.out A6.out T6.out hkl htl6).mono ?_
  rintro e w7 ⟨rfl, hb7⟩
  rw [HRB.out]
  have O6 := ((((((B3.out.below HB1.out B3.out.lt).below HA2.out (by have := HSZ1.out; omega)).grown HG3.out (by have := HSZ1.out; simp <;> omega)).below HB4.out (by have := HSZ1.out; omega)).below HA5.out (by have := HSZ1.out; omega)).grown HG6.out (by have := HSZ1.out; simp <;> omega))
  have O7 := hide (O6.below hb7 O6.lt)
  have hz1 := HSZ1.out
  have hz := HSZ.out
  have H1 : Below w.heap.size w w1 := HB.out.trans (HB1.out.mono (by omega))
  have H2 : Below w.heap.size w w2 := H1.trans (HA2.out.mono (by omega))
  have H3 : Below w.heap.size w w3 := H2.grown HG3.out H2.size (by intro k hk; simp at hk; omega)
  have H4 : Below w.heap.size w w4 := H3.trans (HB4.out.mono (by omega))
  have H5 : Below w.heap.size w w5 := H4.trans (HA5.out.mono (by omega))
  have H6 : Below w.heap.size w w6 := H5.grown HG6.out H5.size (by intro k hk; simp at hk; omega)
  have HB7 := hide (H6.trans (hb7.mono (by omega)))
  clear hz hz1 H1 H2 H3 H4 H5 H6 O6 hb7
  go_wp2_with (first | (refine wpList_store_blk rfl 42 _ _ rfl _ 0 (u8s RES) rfl rfl _ _ O7.out (by rw [u8s_len, u8s_len, HRL.out]; simp) HIR.out (u8s_one _) ?_; intro w8 hB hg8 hs8; rw [lset_all _ _ (by rw [u8s_len, u8s_len, HRL.out]; simp)] at hB) | (exact bodyPost_ret (v := .agg (u8s RES).toArray) (results_cell_row rfl _ _ (w.heap.size + 1 + 1) 42 _ (0, 0) _ rfl hB rfl rfl (by simpa using HIR.out)) rfl ⟨rfl, HB7.out.grown hg8 HB7.out.size (by intro k hk; simp at hk; omega)⟩))

set_option maxRecDepth 100000 in
set_option maxHeartbeats 2000000 in
theorem Expand_any (key : List Int) (w : World) (hk : key.length = 16) (bk : Bytes key) :
    Calls Try.prog 29 #[.agg (u8s key).toArray] w fun e w' => e = .returned (.agg (u8s (ExpandF key)).toArray) ∧ Below w.heap.size w w' := by
  have HRL := hide (ExpandF_len hk bk)
  obtain ⟨RES, HRES⟩ : ∃ x, Hid (ExpandF key = x) := ⟨_, hide rfl⟩
  rw [HRES.out]
  obtain ⟨T, HT⟩ : ∃ T, Hid (boxTab = T) := ⟨_, hide rfl⟩
  have HTB := hide (show byteL T by rw [← HT.out]; exact tab_bytes)
  rw [HRES.out] at HRL
  have HBX := hide (show ∀ w : World, Calls Try.prog 47 #[] w fun e w' => e = .returned (.agg (u8s T).toArray) ∧ Below w.heap.size w w' by rw [← HT.out]; exact box_any)
  have HK := hide hk
  have HBK := hide bk
  have HIK := hide (show (Try.prog.info? 43).map (·.size) = some (u8s key).length by rw [u8s_len, hk]; kernel_rfl)
  have HI256 := hide (show (Try.prog.info? 71).map (·.size) = some (u8s T).length by rw [u8s_len, HTB.out.1]; exact size256)
  have HRB := hide (show keyF T key = RES by rw [← HRES.out, ← HT.out]; rfl)
  have HIR := hide (show (Try.prog.info? 45).map (·.size) = some (u8s RES).length by rw [u8s_len, HRL.out]; exact size176)
  clear hk bk
  go_enter Try.func29, Try.ntmps29
  go_wp2_with (refine wpList_alloc_blk rfl 45 rfl _ zero176 ?_; intro wb b3 hb0 hs0; have B3 := hide b3; have HB0 := hide hb0; have HS0 := hide hs0; clear b3 hb0 hs0)
  have B1 := hide (show Blk wb w.heap.size 43 (u8s key) from (Blk.new w 43 (u8s key)).below HB0.out (by simp))
  have HB := hide (show Below w.heap.size w wb from ((Below.refl w.heap.size w).alloc (Nat.le_refl _) (.cells (u8s key).toArray 43)).trans (HB0.out.mono (by simp)))
  have HSZ := hide (show wb.heap.size = w.heap.size + 1 + 1 by rw [HS0.out]; simp)
  have B3 := hide (show Blk wb (w.heap.size + 1) 45 (u8s (List.replicate 176 0)) by have := B3.out; simpa using this)
  clear HS0 HB0
  refine (HBX.out _).mono ?_
  rintro e w1 ⟨rfl, hb1⟩
  have HB1 := hide hb1
  have hs1 := hb1.size
  have HSZ1 := hide (show w.heap.size + 2 ≤ w1.heap.size by have := HSZ.out; omega)
  clear hb1 hs1
  go_wp2_with (first | (refine wpList_alloc_blk rfl 71 rfl _ zero256 ?_; intro w2 b2 hb2 hs2; have A2 := hide b2; have HA2 := hide hb2; have HS2 := hide hs2; clear b2 hb2 hs2) | (refine wpList_store_blk rfl 71 _ _ rfl _ 0 (u8s T) rfl rfl _ _ A2.out (by rw [u8s_len, u8s_len, HTB.out.1]; simp) HI256.out (u8s_one _) ?_; intro w3 b3 hg3 hs3; rw [lset_all _ _ (by rw [u8s_len, u8s_len, HTB.out.1]; simp)] at b3; have A3 := hide b3; have HG3 := hide hg3; have HS3 := hide hs3; have K3 := hide (((B1.out.below HB1.out B1.out.lt).below HA2.out (by have := HSZ1.out; omega)).grown hg3 (by have := HSZ1.out; simp <;> omega)); clear b3 hg3 hs3) | (refine wpList_load_blk rfl 43 _ rfl _ rfl _ _ K3.out 16 5 rfl HIK.out ?_))
  have htl : w1.heap.size < w3.heap.size := by have := HS2.out; have := HS3.out; omega
  refine (expand_any T key w1.heap.size w3 HTB.out HK.out HBK.out A3.out htl).mono ?_
  rintro e w4 ⟨rfl, hb4⟩
  rw [HRB.out]
  have O6 := ((((B3.out.below HB1.out B3.out.lt).below HA2.out (by have := HSZ1.out; omega)).grown HG3.out (by have := HSZ1.out; simp <;> omega)).below hb4 (by have := HSZ1.out; omega))
  have O7 := hide O6
  have hz1 := HSZ1.out
  have hz := HSZ.out
  have H1 : Below w.heap.size w w1 := HB.out.trans (HB1.out.mono (by omega))
  have H2 : Below w.heap.size w w2 := H1.trans (HA2.out.mono (by omega))
  have H3 : Below w.heap.size w w3 := H2.grown HG3.out H2.size (by intro k hk; simp at hk; omega)
  have HB7 := hide (H3.trans (hb4.mono (by omega)))
  clear hz hz1 H1 H2 H3 O6 hb4
  go_wp2_with (first | (refine wpList_store_blk rfl 45 _ _ rfl _ 0 (u8s RES) rfl rfl _ _ O7.out (by rw [u8s_len, u8s_len, HRL.out]; simp) HIR.out (u8s_one _) ?_; intro w8 hB hg8 hs8; rw [lset_all _ _ (by rw [u8s_len, u8s_len, HRL.out]; simp)] at hB) | (exact bodyPost_ret (v := .agg (u8s RES).toArray) (results_cell_row rfl _ _ (w.heap.size + 1) 45 _ (0, 0) _ rfl hB rfl rfl (by simpa using HIR.out)) rfl ⟨rfl, HB7.out.grown hg8 HB7.out.size (by intro k hk; simp at hk; omega)⟩))

set_option maxRecDepth 100000 in
set_option maxHeartbeats 2000000 in
theorem Expand_ref (key : List Int) (w : World) (hk : key.length = 16) (bk : Bytes key) :
    Calls Try.prog 30 #[.agg (u8s key).toArray] w fun e w' => e = .returned (.agg (u8s (ExpandF key)).toArray) ∧ Below w.heap.size w w' := by
  have HRL := hide (ExpandF_len hk bk)
  obtain ⟨RES, HRES⟩ : ∃ x, Hid (ExpandF key = x) := ⟨_, hide rfl⟩
  rw [HRES.out]
  obtain ⟨T, HT⟩ : ∃ T, Hid (boxTab = T) := ⟨_, hide rfl⟩
  have HTB := hide (show byteL T by rw [← HT.out]; exact tab_bytes)
  rw [HRES.out] at HRL
  have HBX := hide (show ∀ w : World, Calls Try.prog 50 #[] w fun e w' => e = .returned (.agg (u8s T).toArray) ∧ Below w.heap.size w w' by rw [← HT.out]; exact refbox_tab)
  have HK := hide hk
  have HBK := hide bk
  have HIK := hide (show (Try.prog.info? 43).map (·.size) = some (u8s key).length by rw [u8s_len, hk]; kernel_rfl)
  have HI256 := hide (show (Try.prog.info? 71).map (·.size) = some (u8s T).length by rw [u8s_len, HTB.out.1]; exact size256)
  have HRB := hide (show keyF T key = RES by rw [← HRES.out, ← HT.out]; rfl)
  have HIR := hide (show (Try.prog.info? 45).map (·.size) = some (u8s RES).length by rw [u8s_len, HRL.out]; exact size176)
  clear hk bk
  go_enter Try.func30, Try.ntmps30
  go_wp2_with (refine wpList_alloc_blk rfl 45 rfl _ zero176 ?_; intro wb b3 hb0 hs0; have B3 := hide b3; have HB0 := hide hb0; have HS0 := hide hs0; clear b3 hb0 hs0)
  have B1 := hide (show Blk wb w.heap.size 43 (u8s key) from (Blk.new w 43 (u8s key)).below HB0.out (by simp))
  have HB := hide (show Below w.heap.size w wb from ((Below.refl w.heap.size w).alloc (Nat.le_refl _) (.cells (u8s key).toArray 43)).trans (HB0.out.mono (by simp)))
  have HSZ := hide (show wb.heap.size = w.heap.size + 1 + 1 by rw [HS0.out]; simp)
  have B3 := hide (show Blk wb (w.heap.size + 1) 45 (u8s (List.replicate 176 0)) by have := B3.out; simpa using this)
  clear HS0 HB0
  refine (HBX.out _).mono ?_
  rintro e w1 ⟨rfl, hb1⟩
  have HB1 := hide hb1
  have hs1 := hb1.size
  have HSZ1 := hide (show w.heap.size + 2 ≤ w1.heap.size by have := HSZ.out; omega)
  clear hb1 hs1
  go_wp2_with (first | (refine wpList_alloc_blk rfl 71 rfl _ zero256 ?_; intro w2 b2 hb2 hs2; have A2 := hide b2; have HA2 := hide hb2; have HS2 := hide hs2; clear b2 hb2 hs2) | (refine wpList_store_blk rfl 71 _ _ rfl _ 0 (u8s T) rfl rfl _ _ A2.out (by rw [u8s_len, u8s_len, HTB.out.1]; simp) HI256.out (u8s_one _) ?_; intro w3 b3 hg3 hs3; rw [lset_all _ _ (by rw [u8s_len, u8s_len, HTB.out.1]; simp)] at b3; have A3 := hide b3; have HG3 := hide hg3; have HS3 := hide hs3; have K3 := hide (((B1.out.below HB1.out B1.out.lt).below HA2.out (by have := HSZ1.out; omega)).grown hg3 (by have := HSZ1.out; simp <;> omega)); clear b3 hg3 hs3) | (refine wpList_load_blk rfl 43 _ rfl _ rfl _ _ K3.out 16 5 rfl HIK.out ?_))
  have htl : w1.heap.size < w3.heap.size := by have := HS2.out; have := HS3.out; omega
  refine (expand_ref T key w1.heap.size w3 HTB.out HK.out HBK.out A3.out htl).mono ?_
  rintro e w4 ⟨rfl, hb4⟩
  rw [HRB.out]
  have O6 := ((((B3.out.below HB1.out B3.out.lt).below HA2.out (by have := HSZ1.out; omega)).grown HG3.out (by have := HSZ1.out; simp <;> omega)).below hb4 (by have := HSZ1.out; omega))
  have O7 := hide O6
  have hz1 := HSZ1.out
  have hz := HSZ.out
  have H1 : Below w.heap.size w w1 := HB.out.trans (HB1.out.mono (by omega))
  have H2 : Below w.heap.size w w2 := H1.trans (HA2.out.mono (by omega))
  have H3 : Below w.heap.size w w3 := H2.grown HG3.out H2.size (by intro k hk; simp at hk; omega)
  have HB7 := hide (H3.trans (hb4.mono (by omega)))
  clear hz hz1 H1 H2 H3 O6 hb4
  go_wp2_with (first | (refine wpList_store_blk rfl 45 _ _ rfl _ 0 (u8s RES) rfl rfl _ _ O7.out (by rw [u8s_len, u8s_len, HRL.out]; simp) HIR.out (u8s_one _) ?_; intro w8 hB hg8 hs8; rw [lset_all _ _ (by rw [u8s_len, u8s_len, HRL.out]; simp)] at hB) | (exact bodyPost_ret (v := .agg (u8s RES).toArray) (results_cell_row rfl _ _ (w.heap.size + 1) 45 _ (0, 0) _ rfl hB rfl rfl (by simpa using HIR.out)) rfl ⟨rfl, HB7.out.grown hg8 HB7.out.size (by intro k hk; simp at hk; omega)⟩))
end Go.Proofs.Ytoicohcomjnnfaa
