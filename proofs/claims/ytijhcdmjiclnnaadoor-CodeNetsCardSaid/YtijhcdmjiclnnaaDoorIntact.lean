/- aumbrykeep.Intact of bytes that are as they were lent: true. Condition: at most a million bytes. -/
import Derived.Test.YtijhcdmjiclnnaaDoorLend
import Derived.BigQuiet
namespace Go.Proofs.YtijhcdmjiclnnaaDoor
open Go Go.RowKit

set_option maxHeartbeats 2000000 in
theorem Intact_any (g : Nat) (va : Value) (xs : List Int) (w : World) (h : Blk w g 5 (u8s (xs ++ [85, 85, 85]))) (ha : Bs w w.heap.size va xs) (hn : xs.length ≤ 1000000) :
    Calls Tryd.prog 25 #[.slice (some ⟨g, 0, none⟩) xs.length (xs.length + 3), va] w fun e w' => e = .returned (.bool true) ∧ Below w.heap.size w w' := by
  have HBK := hide h
  obtain ⟨A, c, rfl, h1, h2, h3⟩ := ha.open_
  unfold maxLen at h2
  have H3 := hide h3
  have hg := h.lt
  obtain ⟨n, HN⟩ : ∃ n, Hid (xs.length = n) := ⟨_, hide rfl⟩
  have HXL := hide (show (xs ++ [85, 85, 85]).length = n + 3 by rw [List.length_append, HN.out]; rfl)
  rw [HN.out] at hn h1 H3
  rw [HN.out]
  clear h ha h3
  have hnn : ((n : Int) != (n : Int)) = false := by simp
  have hnc : (((n + 3 : Nat) : Int) != (n : Int) + 3) = false := by simp
  have hn0 : (0 : Int) ≤ (n : Int) := by omega
  go_enter Tryd.func25, Tryd.ntmps25
  go_wp2_with fail
  go_loopw [27] (fun vi wr => ∃ k : Nat, k ≤ n + 3 ∧ vi = .int .i64 k ∧ Below w.heap.size w wr) (fun vi _ => n + 3 - (intOf vi).toNat)
  case atStart => exact ⟨0, by omega, rfl, Below.refl _ _⟩
  case round =>
    obtain ⟨k, hk, rfl, hbel⟩ := hrel
    have HBW := hide hbel
    have BK := hide (HBK.out.below hbel hg)
    clear hbel
    by_cases hkt : k < n + 3
    · have k0 : (0 : Int) ≤ (k : Int) := by omega
      have k1 : (k : Int) < (n : Int) + 3 := by omega
      by_cases hkn : k < n
      · obtain ⟨b, o, rfl, hb, hc⟩ := H3.out (by omega)
        obtain ⟨x, HX⟩ : ∃ x, Hid (xs.getD k 0 = x) := ⟨_, hide rfl⟩
        have c2 := (HBW.out.cell (p := ⟨b, o + k, none⟩) hb).trans (hc k x hkn HX.out)
        have c1 := blk_get BK.out k x (by rw [HXL.out]; omega) (by rw [List.getD_eq_getElem?_getD, List.getElem?_append_left (by rw [HN.out]; exact hkn), ← List.getD_eq_getElem?_getD, HX.out])
        have hd : decide ((k : Int) < (n : Int)) = true := by simp; omega
        have hge : decide ((n : Int) ≤ (k : Int)) = false := by simp; omega
        have hgn : decide (n ≤ k) = false := by simp; omega
        have k2 : (k : Int) < (n : Int) := by omega
        have hxx : (x != x) = false := by simp
        clear hc
        go_wp2_with fail
        go_quiet (fail)
        go_wp2_with fail
        go_roundw
        case measure => simp [intOf]; omega
        case rel => exact ⟨k + 1, by omega, by go_num, below_drewN HBW.out _⟩
      · have c1 := blk_get BK.out k 85 (by rw [HXL.out]; omega) (by
          rw [List.getD_eq_getElem?_getD, List.getElem?_append_right (by rw [HN.out]; omega), HN.out]
          rcases show k - n = 0 ∨ k - n = 1 ∨ k - n = 2 by omega with e | e | e <;> rw [e] <;> rfl)
        have hd : decide ((k : Int) < (n : Int)) = false := by simp; omega
        have hge : decide ((n : Int) ≤ (k : Int)) = true := by simp; omega
        have hgn : decide (n ≤ k) = true := by simp; omega
        have hxx : ((85 : Int) != 85) = false := by simp
        go_wp2_with fail
        go_quiet (fail)
        go_wp2_with fail
        go_roundw
        case measure => simp [intOf]; omega
        case rel => exact ⟨k + 1, by omega, by go_num, below_drewN HBW.out _⟩
    · have k1 : ¬ (k : Int) < (n : Int) + 3 := by omega
      go_wp2_with fail
      go_ret
      exact ⟨rfl, HBW.out⟩
end Go.Proofs.YtijhcdmjiclnnaaDoor
