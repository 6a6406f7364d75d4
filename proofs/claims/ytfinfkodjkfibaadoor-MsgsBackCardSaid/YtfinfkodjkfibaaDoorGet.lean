/- code.Get and the reference's: bytes as a number; more than seven are none. No condition. -/
import Derived.Test.YtfinfkodjkfibaaDoorB32All
namespace Go.Proofs.YtfinfkodjkfibaaDoor
open Go Go.RowKit

def getN (xs : List Int) : Nat := xs.foldl (fun n b => 256 * n + b.toNat) 0
theorem getN_snoc (xs : List Int) (b : Int) : getN (xs ++ [b]) = 256 * getN xs + b.toNat := by simp [getN]
theorem getN_take (xs : List Int) (i : Nat) (h : i < xs.length) : getN (xs.take (i + 1)) = 256 * getN (xs.take i) + (xs.getD i 0).toNat := by
  rw [List.take_succ_eq_append_getElem h, getN_snoc, getD_el' xs i h]
theorem getN_lt (xs : List Int) (hb : Bytes xs) : ∀ i, i ≤ xs.length → getN (xs.take i) < 256 ^ i
  | 0, _ => by simp [getN]
  | i + 1, h => by
    have ih := getN_lt xs hb i (by omega)
    rw [getN_take xs i (by omega), Nat.pow_succ]
    have := hb.at_ i
    omega
theorem or_big (a c : Nat) (ha : a < 281474976710656) (hc : c < 256) : bits .or .i64 ((a : Int) * 256) (c : Int) = ((256 * a + c : Nat) : Int) := by
  have e : ∀ n : Nat, n < 4611686018427387904 → (BitVec.ofInt 64 (n : Int)).toNat = n := fun n hn => by
    rw [BitVec.ofInt_natCast, BitVec.toNat_ofNat]; exact Nat.mod_eq_of_lt (by omega)
  have h1 : ((a : Int) * 256) = ((256 * a : Nat) : Int) := by omega
  rw [h1]
  show IntKind.i64.wrap ((BitVec.ofInt 64 ((256 * a : Nat) : Int) ||| BitVec.ofInt 64 (c : Int)).toNat : Int) = _
  rw [BitVec.toNat_or, e _ (by omega), e c (by omega)]
  have h2 := Nat.two_pow_add_eq_or_of_lt (i := 8) (show c < 2 ^ 8 by omega) a
  rw [show (256 : Nat) = 2 ^ 8 from rfl, ← h2]
  exact IntWalk.i64_in _ (by omega)

/-- What Get answers. -/
def getF (xs : List Int) : Value := if xs.length ≤ 7 then .tuple #[.int .i64 (getN xs : Int), .bool true] else .tuple #[.int .i64 0, .bool false]

set_option maxHeartbeats 1000000 in
theorem Get_any (v : Value) (xs : List Int) (w : World) (hv : Bs w w.heap.size v xs) (hb : Bytes xs) :
    Calls Tryd.prog 48 #[v] w fun e w' => e = .returned (getF xs) ∧ w = w' := by
  have HBX := hide hb
  obtain ⟨A, c, rfl, h1, h2, h3⟩ := hv.open_
  unfold maxLen at h2
  have H3 := hide h3
  obtain ⟨n, HN⟩ : ∃ n, Hid (xs.length = n) := ⟨_, hide rfl⟩
  have HF := hide (show getF xs = if n ≤ 7 then .tuple #[.int .i64 (getN xs : Int), .bool true] else .tuple #[.int .i64 0, .bool false] by rw [getF, HN.out])
  rw [HN.out] at h1 H3
  rw [HN.out]
  clear hv hb h3
  obtain ⟨F, HF0⟩ : ∃ F, Hid (getF xs = F) := ⟨_, hide rfl⟩
  rw [HF0.out] at HF
  rw [HF0.out]
  clear HF0
  go_enter Tryd.func48, Tryd.ntmps48
  by_cases h7 : 7 < n
  · have g7 : (7 : Int) < (n : Int) := by omega
    go_wp2_with fail
    go_ret2
    exact ⟨by rw [HF.out, if_neg (by omega)]; rfl, rfl⟩
  · have g7 : ¬ (7 : Int) < (n : Int) := by omega
    go_wp2_with fail
    go_loopw [4, 12] (fun v4 v12 wr => ∃ i : Nat, i ≤ n ∧ v12 = .int .i64 i ∧ v4 = .int .i64 (getN (xs.take i) : Int) ∧ w = wr) (fun _ v12 _ => n - (intOf v12).toNat)
    case atStart => exact ⟨0, by omega, rfl, by simp [getN], rfl⟩
    case round =>
      obtain ⟨i, hi, rfl, rfl, rfl⟩ := hrel
      have HL := hide (getN_lt xs HBX.out i (by rw [HN.out]; exact hi))
      by_cases hit : i < n
      · obtain ⟨b, o, rfl, hbb, hc⟩ := H3.out (by omega)
        obtain ⟨x, HX⟩ : ∃ x, Hid (xs.getD i 0 = x) := ⟨_, hide rfl⟩
        have c1 := hc i x hit HX.out
        have hx := HBX.out.at_ i
        rw [HX.out] at hx
        obtain ⟨hx0, hx1⟩ := hx
        obtain ⟨y, rfl⟩ := Int.eq_ofNat_of_zero_le hx0
        have HNX := hide (show getN (xs.take (i + 1)) = 256 * getN (xs.take i) + y by rw [getN_take xs i (by rw [HN.out]; exact hit), HX.out]; simp)
        have hm : getN (xs.take i) < 281474976710656 := by
          have := HL.out
          have h6 : 256 ^ i ≤ 256 ^ 6 := Nat.pow_le_pow_right (by omega) (by omega)
          have : (256 : Nat) ^ 6 = 281474976710656 := by decide
          omega
        clear HL
        obtain ⟨m, HM⟩ : ∃ m, Hid (getN (xs.take i) = m) := ⟨_, hide rfl⟩
        rw [HM.out] at HNX hm
        rw [HM.out]
        have i0 : (0 : Int) ≤ (i : Int) := by omega
        have i1 : (i : Int) < (n : Int) := by omega
        have w1 : IntKind.i64.wrap ((m : Int) * 256) = (m : Int) * 256 := IntWalk.i64_in _ (by omega)
        have w2 := or_big m y hm (by omega)
        clear hc
        go_wp2_with fail
        go_roundw
        case measure => simp [intOf]; omega
        case rel => exact ⟨i + 1, by omega, by go_num, by rw [HNX.out]; first | rfl | (refine congrArg (Value.int .i64) ?_; omega), by first | rfl | trivial⟩
      · have e : i = n := by omega
        subst e
        have i1 : ¬ (i : Int) < (i : Int) := by omega
        have HG := hide (show getN (xs.take i) = getN xs by rw [List.take_of_length_le (by rw [HN.out]; exact Nat.le_refl _)])
        rw [HG.out]
        clear HL HG
        go_wp2_with fail
        go_ret2
        exact ⟨by rw [HF.out, if_pos (by omega)]; rfl, rfl⟩

set_option maxHeartbeats 1000000 in
theorem Get_ref (v : Value) (xs : List Int) (w : World) (hv : Bs w w.heap.size v xs) (hb : Bytes xs) :
    Calls Tryd.prog 45 #[v] w fun e w' => e = .returned (getF xs) ∧ w = w' := by
  have HBX := hide hb
  obtain ⟨A, c, rfl, h1, h2, h3⟩ := hv.open_
  unfold maxLen at h2
  have H3 := hide h3
  obtain ⟨n, HN⟩ : ∃ n, Hid (xs.length = n) := ⟨_, hide rfl⟩
  have HF := hide (show getF xs = if n ≤ 7 then .tuple #[.int .i64 (getN xs : Int), .bool true] else .tuple #[.int .i64 0, .bool false] by rw [getF, HN.out])
  rw [HN.out] at h1 H3
  rw [HN.out]
  clear hv hb h3
  obtain ⟨F, HF0⟩ : ∃ F, Hid (getF xs = F) := ⟨_, hide rfl⟩
  rw [HF0.out] at HF
  rw [HF0.out]
  clear HF0
  go_enter Tryd.func45, Tryd.ntmps45
  by_cases h7 : 7 < n
  · have g7 : (7 : Int) < (n : Int) := by omega
    go_wp2_with fail
    go_ret2
    exact ⟨by rw [HF.out, if_neg (by omega)]; rfl, rfl⟩
  · have g7 : ¬ (7 : Int) < (n : Int) := by omega
    go_wp2_with fail
    go_loopw [4, 11] (fun v4 v12 wr => ∃ i : Nat, i ≤ n ∧ v12 = .int .i64 i ∧ v4 = .int .i64 (getN (xs.take i) : Int) ∧ w = wr) (fun _ v12 _ => n - (intOf v12).toNat)
    case atStart => exact ⟨0, by omega, rfl, by simp [getN], rfl⟩
    case round =>
      obtain ⟨i, hi, rfl, rfl, rfl⟩ := hrel
      have HL := hide (getN_lt xs HBX.out i (by rw [HN.out]; exact hi))
      by_cases hit : i < n
      · obtain ⟨b, o, rfl, hbb, hc⟩ := H3.out (by omega)
        obtain ⟨x, HX⟩ : ∃ x, Hid (xs.getD i 0 = x) := ⟨_, hide rfl⟩
        have c1 := hc i x hit HX.out
        have hx := HBX.out.at_ i
        rw [HX.out] at hx
        obtain ⟨hx0, hx1⟩ := hx
        obtain ⟨y, rfl⟩ := Int.eq_ofNat_of_zero_le hx0
        have HNX := hide (show getN (xs.take (i + 1)) = 256 * getN (xs.take i) + y by rw [getN_take xs i (by rw [HN.out]; exact hit), HX.out]; simp)
        have hm : getN (xs.take i) < 281474976710656 := by
          have := HL.out
          have h6 : 256 ^ i ≤ 256 ^ 6 := Nat.pow_le_pow_right (by omega) (by omega)
          have : (256 : Nat) ^ 6 = 281474976710656 := by decide
          omega
        clear HL
        obtain ⟨m, HM⟩ : ∃ m, Hid (getN (xs.take i) = m) := ⟨_, hide rfl⟩
        rw [HM.out] at HNX hm
        rw [HM.out]
        have i0 : (0 : Int) ≤ (i : Int) := by omega
        have i1 : (i : Int) < (n : Int) := by omega
        clear hc
        go_wp2_with fail
        go_roundw
        case measure => simp [intOf]; omega
        case rel => exact ⟨i + 1, by omega, by go_num, by rw [HNX.out]; first | rfl | (refine congrArg (Value.int .i64) ?_; omega), by first | rfl | trivial⟩
      · have e : i = n := by omega
        subst e
        have i1 : ¬ (i : Int) < (i : Int) := by omega
        have HG := hide (show getN (xs.take i) = getN xs by rw [List.take_of_length_le (by rw [HN.out]; exact Nat.le_refl _)])
        rw [HG.out]
        clear HL HG
        go_wp2_with fail
        go_ret2
        exact ⟨by rw [HF.out, if_pos (by omega)]; rfl, rfl⟩
end Go.Proofs.YtfinfkodjkfibaaDoor
