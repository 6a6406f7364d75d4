/- The example of chapter 3: AES of noughts under a key of noughts. No condition. -/
import Derived.Test.YtoicohcomjnnfaaAesBlock
namespace Go.Proofs.Ytoicohcomjnnfaa
open Go Go.RowKit

def zero16L : List Int := List.replicate 16 0
theorem zero16L_len : zero16L.length = 16 := rfl
theorem zero16L_bytes : Bytes zero16L := fun x hx => by
  have := (List.mem_replicate.1 hx).2; subst this; omega
theorem wake_vals : (BlockF zero16L zero16L).getD 0 0 = 102 ∧ (BlockF zero16L zero16L).getD 1 0 = 233 ∧ (BlockF zero16L zero16L).getD 2 0 = 75 ∧ (BlockF zero16L zero16L).getD 3 0 = 212 := by decide +kernel

set_option maxHeartbeats 1000000 in
theorem wakes03 (w : World) : Calls Try.prog 31 #[] w fun e w' => e = .returned (.bool true) ∧ Below w.heap.size w w' := by
  have HV := hide wake_vals
  have HBL := hide (BlockF_len zero16L_len zero16L_bytes zero16L_len zero16L_bytes)
  have HC := hide (fun w => Block_any zero16L zero16L w zero16L_len zero16L_bytes zero16L_len zero16L_bytes)
  obtain ⟨R, HR⟩ : ∃ R, Hid (BlockF zero16L zero16L = R) := ⟨_, hide rfl⟩
  rw [HR.out] at HV HBL HC
  have HI := hide (show (Try.prog.info? 42).map (·.size) = some (u8s R).length by rw [u8s_len, HBL.out]; exact size16)
  go_enter Try.func31, Try.ntmps31
  go_wp2_with fail
  refine (HC.out _).mono ?_
  rintro e w1 ⟨rfl, hb1⟩
  have HB1 := hide hb1
  have hs1 := hb1.size
  clear hb1 HC HR
  go_wp2_with (first | (refine wpList_alloc_blk rfl 42 rfl _ zero16 ?_; intro w2 b2 hb2 hs2; have A2 := hide b2; have HA2 := hide hb2; have HS2 := hide hs2; clear b2 hb2 hs2) | (refine wpList_store_blk rfl 42 _ _ rfl _ 0 (u8s R) rfl rfl _ _ A2.out (by rw [u8s_len, u8s_len, HBL.out]; simp) HI.out (u8s_one _) ?_; intro w3 b3 hg3 hs3; rw [lset_all _ _ (by rw [u8s_len, u8s_len, HBL.out]; simp)] at b3; have c0 := blk_get b3 0 102 (by rw [HBL.out]; omega) HV.out.1; have c1 := blk_get b3 1 233 (by rw [HBL.out]; omega) HV.out.2.1; have c2 := blk_get b3 2 75 (by rw [HBL.out]; omega) HV.out.2.2.1; have c3 := blk_get b3 3 212 (by rw [HBL.out]; omega) HV.out.2.2.2; have HB3 := hide ((HB1.out.trans (HA2.out.mono hs1)).grown hg3 (HB1.out.trans (HA2.out.mono hs1)).size (by intro k hk; simp at hk; omega)); clear b3 hg3 hs3))
  go_ret
  exact ⟨rfl, HB3.out⟩
end Go.Proofs.Ytoicohcomjnnfaa
