/- aumbrykeep.Spoil: it writes only the block of its argument. Condition: the block holds bytes throughout. -/
import Derived.Test.YtijhcdmjiclnnaaDoorKeep
import Derived.LoopIn
namespace Go.Proofs.YtijhcdmjiclnnaaDoor
open Go Go.RowKit

def SpoilPost (w : World) (g : Nat) (e : Ending) (w' : World) : Prop := (∃ r, e = .returned r) ∧ w.grownBy w' (some g)

set_option maxHeartbeats 1000000 in
theorem Spoil_any (g n : Nat) (cur : List Int) (w : World) (h : Blk w g 5 (u8s cur)) (hb : Bytes cur) (hn : n ≤ cur.length) (hm : cur.length ≤ 1000000000) :
    Calls Tryd.prog 24 #[.slice (some ⟨g, 0, none⟩) n cur.length] w (SpoilPost w g) := by
  have HBK := hide h
  have HBB := hide hb
  obtain ⟨c, HC⟩ : ∃ n, Hid (cur.length = n) := ⟨_, hide rfl⟩
  rw [HC.out] at hn hm
  rw [HC.out]
  clear h hb
  go_enter Tryd.func24, Tryd.ntmps24
  go_wp2_with fail
  go_loopw [10] (fun vi wr => ∃ (k : Nat) (xs : List Int), k ≤ c ∧ vi = .int .i64 k ∧ xs.length = c ∧ Blk wr g 5 (u8s xs) ∧ w.grownBy wr (some g)) (fun vi _ => c - (intOf vi).toNat)
  case atStart => exact ⟨0, cur, by omega, rfl, HC.out, HBK.out, World.grownBy.refl _ _⟩
  case round =>
    clear HBK HBB
    obtain ⟨k, xs, hk, rfl, hl, bx, hgr⟩ := hrel
    have HXL := hide hl
    have BX := hide bx
    have HGR := hide hgr
    clear hl bx hgr
    by_cases hkt : k < c
    · have k0 : (0 : Int) ≤ (k : Int) := by omega
      have k1 : (k : Int) < (c : Int) := by omega
      obtain ⟨x, HX⟩ : ∃ x, Hid (xs.getD k 0 = x) := ⟨_, hide rfl⟩
      have c1 := blk_get BX.out k x (by rw [HXL.out]; exact hkt) HX.out
      have f1 := BX.out.frozen k
      go_wp2_with fail
      go_roundw
      case measure => simp [intOf]; omega
      case rel =>
        have e1 : (k : Int) + 1 = ((k + 1 : Nat) : Int) := by omega
        exact ⟨k + 1, xs.set k (bits .xor .u8 x 119), by omega, by rw [e1], by simpa using HXL.out, blk_set BX.out k _, HGR.out.trans (grown_setCells [.int .u8 (bits .xor .u8 x 119)] _ k).1⟩
    · go_wp2_with fail
      go_end0
      exact ⟨⟨_, rfl⟩, HGR.out⟩
end Go.Proofs.YtijhcdmjiclnnaaDoor
