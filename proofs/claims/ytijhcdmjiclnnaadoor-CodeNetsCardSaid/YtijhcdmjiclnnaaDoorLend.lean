/- aumbrykeep.Lend: bytes with room behind them. Condition: at most a million bytes. -/
import Derived.Test.YtijhcdmjiclnnaaDoorKeep
import Derived.Laws.CopyOwn
import Derived.LoopIn
namespace Go.Proofs.YtijhcdmjiclnnaaDoor
open Go Go.RowKit

set_option maxHeartbeats 1000000 in
theorem Lend_any (v : Value) (xs : List Int) (w : World) (h : Bs w w.heap.size v xs) (hn : xs.length ≤ 1000000) :
    Calls Tryd.prog 20 #[v] w fun e w' => ∃ g, e = .returned (.slice (some ⟨g, 0, none⟩) xs.length (xs.length + 3)) ∧ w.heap.size ≤ g ∧ Blk w' g 5 (u8s (xs ++ [85, 85, 85])) ∧ Below w.heap.size w w' := by
  obtain ⟨A, c, rfl, h1, h2, h3⟩ := h.open_
  unfold maxLen at h2
  have H3 := hide h3
  have HV := hide h
  obtain ⟨n, HN⟩ : ∃ n, Hid (xs.length = n) := ⟨_, hide rfl⟩
  rw [HN.out] at hn h1 H3
  rw [HN.out]
  clear h h3
  have hcp : ∀ w1 : World, Below w.heap.size w w1 → (0 < (u8s xs).length → ∃ ad, A = some ad ∧ ∀ j v, (u8s xs)[j]? = some v → w1.cell? (ad.add j) = some v) := by
    intro w1 hb hp
    obtain ⟨A', c', hv, e1, e2, e4, e3⟩ := HV.out
    injection hv with g1 g2 g3
    subst g1
    obtain ⟨b, o, rfl, hb', hc⟩ := e3 (by rw [u8s_len] at hp; exact hp)
    refine ⟨_, rfl, fun j u hu => ?_⟩
    rw [Addr.add_mid]
    exact (hb.cell (p := ⟨b, o + j, none⟩) hb').trans (hc j u hu)
  have HCP := hide hcp
  have HLX := hide (show (u8s xs).length = n by rw [u8s_len, HN.out])
  clear hcp HV H3
  go_enter Tryd.func20, Tryd.ntmps20
  go_wp2_with (first | (refine wpList_make_bytes rfl _ _ rfl .i64 .i64 n (n + 3) rfl rfl (by omega) (by omega) ?_; intro w1 b1 hb1 hs1; have B1 := hide b1; have HB1 := hide hb1; clear b1 hb1 hs1) | (refine wpList_copy_splice rfl _ _ _ _ rfl 5 Tryd.underlying23 (by kernel_rfl) _ _ _ _ _ _ rfl rfl w.heap.size 0 (u8s (List.replicate (n + 3) 0)) 5 B1.out (u8s xs) (by rw [HLX.out]; exact (Nat.min_self n).symm) (fun hp => ⟨rfl, HCP.out w1 HB1.out hp⟩) (by rw [HLX.out, u8s_len, List.length_replicate]; omega) (u8s_one _) w.heap.size w HB1.out (Nat.le_refl _) ?_; intro w2 hg2 hb2; have G2 := hg2; have HB2 := hide hb2; clear hg2 hb2))
  have B2 := hide (show Blk w2 w.heap.size 5 (u8s (xs ++ [0, 0, 0])) by
    have e : splice (u8s (List.replicate (n + 3) 0)) 0 (u8s xs) = u8s (xs ++ [0, 0, 0]) := by
      rw [splice, List.take_zero, List.nil_append, Nat.zero_add, HLX.out, ← u8s_app]
      congr 1
      simp [u8s, List.drop_replicate]
    rw [← e]; exact G2.out)
  clear G2
  have hn0 : (0 : Int) ≤ (n : Int) := by omega
  go_loopw [5] (fun vi wr => ∃ (k : Nat) (ys : List Int), k ≤ 3 ∧ vi = .int .i64 ((n + k : Nat) : Int) ∧ ys.length = 3 ∧ (∀ j, j < 3 → ys.getD j 0 = if j < k then 85 else 0) ∧ Blk wr w.heap.size 5 (u8s (xs ++ ys)) ∧ Below w.heap.size w wr) (fun vi _ => n + 3 - (intOf vi).toNat)
  case atStart => exact ⟨0, [0, 0, 0], by omega, rfl, rfl, fun j hj => by rw [if_neg (by omega)]; rcases show j = 0 ∨ j = 1 ∨ j = 2 by omega with rfl | rfl | rfl <;> rfl, B2.out, HB2.out⟩
  case round =>
    clear B2 HB2
    obtain ⟨k, ys, hk, rfl, hl, hy, bx, hbel⟩ := hrel
    have HYL := hide hl
    have HY := hide hy
    have BX := hide bx
    have HBW := hide hbel
    have HXYL := hide (show (xs ++ ys).length = n + 3 by rw [List.length_append, HN.out, hl])
    clear hl hy bx hbel
    obtain ⟨m, hm⟩ : ∃ m, n + k = m := ⟨_, rfl⟩
    rw [hm]
    have HM := hide hm
    by_cases hkt : k < 3
    · have m0 : (0 : Int) ≤ (m : Int) := by omega
      have m1 : (m : Int) < (n : Int) + 3 := by omega
      have m2 : m < n + 3 := by omega
      obtain ⟨old, HOLD⟩ : ∃ x, Hid ((xs ++ ys).getD m 0 = x) := ⟨_, hide rfl⟩
      have c1 := blk_get BX.out m old (by rw [HXYL.out]; exact m2) HOLD.out
      have f1 := BX.out.frozen m
      clear hm
      go_wp2_with fail
      go_roundw
      case measure => simp [intOf]; omega
      case rel =>
        have hm := HM.out
        refine ⟨k + 1, ys.set k 85, by omega, ?_, by simpa using HYL.out, fun j hj => ?_, ?_, HBW.out.setCell (p := ⟨w.heap.size, m, none⟩) (Nat.le_refl _) _⟩
        · refine congrArg (Value.int .i64) ?_; omega
        · have e : (ys.set k 85).getD j 0 = if k = j then 85 else ys.getD j 0 := by
            rw [List.getD_eq_getElem?_getD, List.getElem?_set, List.getD_eq_getElem?_getD]
            split
            · rename_i e; subst e; simp [HYL.out, hj]
            · rfl
          rw [e]
          by_cases e1 : k = j
          · rw [if_pos e1, if_pos (by omega)]
          · rw [if_neg e1, HY.out j hj]
            by_cases h1 : j < k
            · rw [if_pos h1, if_pos (by omega)]
            · rw [if_neg h1, if_neg (by omega)]
        · have := blk_set BX.out m 85
          rw [List.set_append_right _ _ (by rw [HN.out]; omega), HN.out, show m - n = k by omega] at this
          exact this
    · have HE := hide (show ys = [85, 85, 85] by
        have h3 := HYL.out
        match ys, h3 with
        | [y0, y1, y2], _ =>
          have e0 := HY.out 0 (by omega)
          have e1 := HY.out 1 (by omega)
          have e2 := HY.out 2 (by omega)
          rw [if_pos (by omega)] at e0 e1 e2
          simp at e0 e1 e2
          rw [e0, e1, e2])
      have m1 : ¬ (m : Int) < (n : Int) + 3 := by omega
      clear hm
      go_wp2_with fail
      go_ret
      exact ⟨_, rfl, Nat.le_refl _, by rw [← HE.out]; exact BX.out, HBW.out⟩
end Go.Proofs.YtijhcdmjiclnnaaDoor
