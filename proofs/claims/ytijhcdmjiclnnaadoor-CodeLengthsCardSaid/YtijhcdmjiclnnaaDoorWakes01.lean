/- aumbrylaw01.wakes answers true. Condition: the library's table is laid. -/
import Derived.Test.YtijhcdmjiclnnaaDoorNet
import Derived.Test.YtijhcdmjiclnnaaDoorB32
namespace Go.Proofs.YtijhcdmjiclnnaaDoor
open Go Go.RowKit

theorem net_ab : netF [97, 98] = [50, 58, 97, 98, 44] := by
  rw [netF, digB, show [(97 : Int), 98].length = 2 from rfl, Lib.decDigits_one (by omega)]
  rfl
theorem b32_a : b32F [0] = [97, 97] := by decide

set_option maxHeartbeats 1000000 in
theorem wakes01 (w : World) (ht : Tab w w.heap.size) :
    Calls Tryd.prog 19 #[] w fun e w' => e = .returned (.bool true) ∧ Below w.heap.size w w' := by
  have HT := hide ht
  clear ht
  go_enter Tryd.func19, Tryd.ntmps19
  go_wp2_with (first
    | (refine wpList_lit rfl _ _ rfl [97, 98] rfl (by omega) (by omega) rfl ?_; intro g1 w0 bk0 hg0 hb0; have BK0 := hide bk0; have HB0 := hide hb0; have hz0 := hb0.size; clear bk0 hb0)
    | (refine wpList_bytes_const rfl _ rfl g1 [97, 98] rfl BK0.out (by intro x hx; simp at hx; omega) w.heap.size hg0 (by decide) ?_; intro w1 ho1 hg1; have HL1 := hide ho1.reads; have HB1 := hide (HB0.out.grown hg1 hz0 (by intro k hk; simp at hk; omega)); have hz1 := HB1.out.size; clear ho1 hg1 BK0 HB0))
  refine (Net_any (.slice (some ⟨g1, 0, none⟩) 2 2) [97, 98] w1 HL1.out (by intro x hx; simp at hx; omega) (by simp) ((HT.out.below HB1.out (Nat.le_refl _)).more hz1)).mono ?_
  rintro e w2 ⟨v2, rfl, ho2, hb2⟩
  rw [net_ab] at ho2
  have HO2 := hide ho2
  have HB2 := hide (HB1.out.trans (hb2.mono hz1))
  have hz2 := hb2.size
  clear ho2 hb2
  have HS := hide (show strOfNums [50, 58, 97, 98, 44] = { data := #[50, 58, 97, 98, 44] } from rfl)
  go_wp2_with (first | (refine wpList_to_string rfl _ rfl _ _ [50, 58, 97, 98, 44] rfl HO2.out.reads ?_; rw [HS.out]))
  have hba := (Below.refl w2.heap.size w2).alloc (Nat.le_refl _) (.cells (u8s [0]).toArray 5)
  have HL3 := hide ((RowB.of_blk (base := 0) (Blk.new w2 5 (u8s [0])) (by omega) (show Bytes [0] from fun x hx => by simp at hx; omega) (by decide)).reads)
  have HB3 := hide (HB2.out.trans (hba.mono (Nat.le_trans hz1 hz2)))
  clear hba
  refine (Base32_any (.slice (some ⟨w2.heap.size, 0, none⟩) 1 1) [0] _ HL3.out (by intro x hx; simp at hx; omega) (by simp)).mono ?_
  rintro e w4 ⟨rfl, hb4⟩
  rw [b32_a, show strOfNums [97, 97] = { data := #[97, 97] } from rfl]
  have HB4 := hide (HB3.out.trans (hb4.mono HB3.out.size))
  clear hb4
  go_wp2_with fail
  go_ret
  exact ⟨rfl, HB4.out⟩
end Go.Proofs.YtijhcdmjiclnnaaDoor
