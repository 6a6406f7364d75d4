/- aumbrykeep.Spoil at a row of bytes of the call's own: it writes only the row's block. -/
import Derived.Test.YtijhcdmjiclnnaaDoorSpoil
import Derived.Test.YtijhcdmjiclnnaaDoorRowB
namespace Go.Proofs.YtijhcdmjiclnnaaDoor
open Go Go.RowKit

theorem blkF_get {w : World} {g : Nat} {t : TypeId} {f : Nat × Nat} {xs : List Int} (h : BlkF w g t (u8s xs) f) (i : Nat) (x : Int) (hi : i < xs.length) (hx : xs.getD i 0 = x) : w.cell? ⟨g, i, none⟩ = some (.int .u8 x) := by
  rw [h.cell, ← hx, List.getD_eq_getElem?_getD, List.getElem?_eq_getElem hi]
  unfold u8s
  rw [List.getElem?_map, List.getElem?_eq_getElem hi]
  rfl
theorem blkF_set {w : World} {g : Nat} {t : TypeId} {f : Nat × Nat} {xs : List Int} (h : BlkF w g t (u8s xs) f) (i : Nat) (x : Int) : BlkF (w.setCell ⟨g, i, none⟩ (.int .u8 x)) g t (u8s (xs.set i x)) f := by
  rw [← u8s_set]
  exact h.set_ i _

set_option maxHeartbeats 1000000 in
theorem SpoilF_any (g n : Nat) (cur : List Int) (f : Nat × Nat) (w : World) (h : BlkF w g 5 (u8s cur) f) (hf : f.2 = 0 ∨ cur.length ≤ f.1) (hb : Bytes cur) (hn : n ≤ cur.length) (hm : cur.length ≤ 9223372036854775807) :
    Calls Tryd.prog 24 #[.slice (some ⟨g, 0, none⟩) n cur.length] w (SpoilPost w g) := by
  have HBK := hide h
  have HBB := hide hb
  obtain ⟨c, HC⟩ : ∃ n, Hid (cur.length = n) := ⟨_, hide rfl⟩
  rw [HC.out] at hn hm hf
  rw [HC.out]
  have HF := hide hf
  clear h hb hf
  go_enter Tryd.func24, Tryd.ntmps24
  go_wp2_with fail
  go_loopw [10] (fun vi wr => ∃ (k : Nat) (xs : List Int), k ≤ c ∧ vi = .int .i64 k ∧ xs.length = c ∧ BlkF wr g 5 (u8s xs) f ∧ w.grownBy wr (some g)) (fun vi _ => c - (intOf vi).toNat)
  case atStart => exact ⟨0, cur, by omega, rfl, HC.out, HBK.out, World.grownBy.refl _ _⟩
  case round =>
    clear HBK HBB
    obtain ⟨k, xs, hk, rfl, hl, bx, hgr⟩ := hrel
    have HXL := hide hl
    have BX := hide bx
    have HGR := hide hgr
    clear hl bx hgr
    by_cases hkt : k < c
    · have k0 : (0 : Int) ≤ (k : Int) := by omega
      have k1 : (k : Int) < (c : Int) := by omega
      obtain ⟨x, HX⟩ : ∃ x, Hid (xs.getD k 0 = x) := ⟨_, hide rfl⟩
      have c1 := blkF_get BX.out k x (by rw [HXL.out]; exact hkt) HX.out
      have f1 := BX.out.frozen k (by have := HF.out; omega)
      go_wp2_with fail
      go_roundw
      case measure => simp [intOf]; omega
      case rel =>
        have e1 : (k : Int) + 1 = ((k + 1 : Nat) : Int) := by omega
        exact ⟨k + 1, xs.set k (bits .xor .u8 x 119), by omega, by rw [e1], by simpa using HXL.out, blkF_set BX.out k _, HGR.out.trans (grown_setCells [.int .u8 (bits .xor .u8 x 119)] _ k).1⟩
    · go_wp2_with fail
      go_end0
      exact ⟨⟨_, rfl⟩, HGR.out⟩
theorem SpoilB_any (v : Value) (xs : List Int) (base : Nat) (w : World) (h : RowB w base v xs) (hp : 0 < xs.length) :
    ∃ g, v.ownBlock = some g ∧ base ≤ g ∧ Calls Tryd.prog 24 #[v] w (SpoilPost w g) := by
  rcases h with ⟨_, rfl⟩ | ⟨g, cap, cur, f, rfl, h1, hB, hf, hl, hc, hcl, hb, ht⟩
  · simp at hp
  · refine ⟨g, rfl, h1, ?_⟩
    subst hcl
    exact SpoilF_any g _ cur f w hB hf hb hl (by unfold maxLen at hc; omega)
end Go.Proofs.YtijhcdmjiclnnaaDoor
