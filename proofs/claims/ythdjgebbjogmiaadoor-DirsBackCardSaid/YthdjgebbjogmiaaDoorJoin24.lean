/- What Set writes, in letters. No program in sight, but for a block that stands.
dirs.Find: the entry of a name. Condition: literals of at most a million bytes.
caps.number and the document's: a small number of digits. Condition: at most a million letters. -/
import Derived.Test.YthdjgebbjogmiaaDoorJoin21
import Derived.Test.YthdjgebbjogmiaaDoorJoin13
import Derived.Test.YthdjgebbjogmiaaDoorDirRight
import Derived.Test.YthdjgebbjogmiaaDoorJoin9
import Derived.BigQuiet
set_option linter.unusedVariables false
set_option linter.unusedSimpArgs false
namespace Go.Proofs.YthdjgebbjogmiaaDoor
open Go Go.RowKit
set_option maxRecDepth 100000
end Go.Proofs.YthdjgebbjogmiaaDoor

namespace Go.Proofs.YthdjgebbjogmiaaDoor
open Go Go.RowKit
set_option linter.unusedVariables false
set_option linter.unusedSimpArgs false
set_option maxRecDepth 100000
set_option maxHeartbeats 16000000
/-- What Find answers. -/
def FindRes (w : World) (r : Ending) (w' : World) (o : Option EntD) : Prop :=
 (∃ e lr lw, o = some e ∧ r = .returned (.tuple #[.agg (entC e lr lw).toArray, .bool true]) ∧ RowB w' w.heap.size lr e.read.lit ∧ RowB w' w.heap.size lw e.write.lit ∧ e.Wf ∧ Below w.heap.size w w') ∨
 (o = none ∧ r = .returned (.tuple #[.agg (entC EntD.none_ (.slice none 0 0) (.slice none 0 0)).toArray, .bool false]) ∧ Below w.heap.size w w')
end Go.Proofs.YthdjgebbjogmiaaDoor

namespace Go.Proofs.YthdjgebbjogmiaaDoor
open Go Go.RowKit
set_option maxRecDepth 100000

theorem numD_snoc (n c : Int) (l : List Int) : numD n (l ++ [c]) = 10 * numD n l + c - 48 := by simp [numD]
theorem numD_take (xs : List Int) (i : Nat) (h : i < xs.length) : numD 0 (xs.take (i + 1)) = 10 * numD 0 (xs.take i) + xs.getD i 0 - 48 := by
 rw [List.take_succ_eq_append_getElem h, numD_snoc, getD_el' xs i h]
theorem numD_bound (xs : List Int) (hb : Bytes xs) : ∀ i, i ≤ xs.length → -(1000 * (10 ^ i : Nat) : Int) + 100 ≤ numD 0 (xs.take i) ∧ numD 0 (xs.take i) ≤ (1000 * (10 ^ i : Nat) : Int) - 100
 | 0, _ => by simp [numD]
 | i + 1, h => by
  have ih := numD_bound xs hb i (by omega)
  have hx := hb.at_ i
  rw [numD_take xs i (by omega), Nat.pow_succ]
  omega
theorem numD_small (xs : List Int) (hb : Bytes xs) (i : Nat) (hi : i ≤ xs.length) (h7 : i ≤ 7) : -1000000000000 ≤ numD 0 (xs.take i) ∧ numD 0 (xs.take i) ≤ 1000000000000 := by
 have h := numD_bound xs hb i hi
 have h2 : 10 ^ i ≤ 10 ^ 7 := Nat.pow_le_pow_right (by omega) h7
 have : (10 : Nat) ^ 7 = 10000000 := by decide
 omega

set_option maxHeartbeats 4000000 in
theorem number_any (s : ByteArray) (w : World) (hn : s.size ≤ 1000000) :
 Calls Tryd.prog 85 #[.string s] w fun e w' => e = .returned (.int .i64 (numP (strB s))) ∧ Below w.heap.size w w' := by
 have HSL := hide (strB_len s)
 have HBX := hide (strB_bytes s)
 have HAT := hide (fun (i : Nat) (h : i < s.size) => (show ∀ w : World, (Instr.index 9 (.string s) (.int .i64 (i : Int))).run Tryd.prog w = .ok (.int .u8 ((strB s).getD i 0)) w from fun w => by
  rw [run_index_string w 9 s .i64 (i : Int) Tryd.underlying9, dif_pos ⟨by omega, by omega⟩]
  simp only [Int.toNat_natCast]
  rw [strB, List.getD_eq_getElem?_getD, List.getElem?_map, List.getElem?_eq_getElem (by rw [Array.length_toList]; exact h)]
  rfl))
 obtain ⟨xs, HXS⟩ : ∃ x, Hid (strB s = x) := ⟨_, hide rfl⟩
 rw [HXS.out] at HSL HAT HBX
 rw [HXS.out]
 obtain ⟨n, HN⟩ : ∃ n, Hid (s.size = n) := ⟨_, hide rfl⟩
 have hsn : s.size ≤ n := by rw [HN.out]; exact Nat.le_refl _
 have hns : n ≤ s.size := by rw [HN.out]; exact Nat.le_refl _
 rw [HN.out] at HSL
 clear HXS
 have HDONE := hide (fun (i : Nat) (h1 : i ≤ n) (h2 : i ≤ 5) (h : ¬ (i < n ∧ i < 5)) => (show numD 0 (xs.take i) = numP xs by
  rw [numP]
  rcases Nat.lt_or_ge i 5 with h5 | h5
  · rw [List.take_of_length_le (by rw [HSL.out]; omega), List.take_of_length_le (by rw [HSL.out]; omega)]
  · rw [show i = 5 by omega]))
 go_enter Tryd.func85, Tryd.ntmps85
 go_wp2_with fail
 go_loopw [3, 4] (fun v3 v4 wr => ∃ (i : Nat) (m : Int), i ≤ n ∧ i ≤ 5 ∧ v4 = .int .i64 i ∧ v3 = .int .i64 m ∧ numD 0 (xs.take i) = m ∧ Below w.heap.size w wr) (fun _ v4 _ => n - (intOf v4).toNat)
 case atStart => exact ⟨0, 0, by omega, by omega, rfl, rfl, rfl, Below.refl _ _⟩
 case round =>
  obtain ⟨i, m, hi, hi5, rfl, rfl, hm, hbel⟩ := hrel
  have HM := hide hm
  have HBL := hide hbel
  clear hm hbel
  by_cases hit : i < n ∧ i < 5
  · obtain ⟨hit, h5⟩ := hit
    have hat := HAT.out i (by omega)
    have HB := hide (HBX.out.at_ i)
    have HT := hide (numD_take xs i (by rw [HSL.out]; exact hit))
    have hsm := numD_small xs HBX.out i (by rw [HSL.out]; exact hi) (by omega)
    rw [HM.out] at hsm HT
    obtain ⟨x, HX⟩ : ∃ x, Hid (xs.getD i 0 = x) := ⟨_, hide rfl⟩
    rw [HX.out] at hat HB HT
    obtain ⟨hx0, hx1⟩ := HB.out
    obtain ⟨hs0, hs1⟩ := hsm
    have i1 : (i : Int) < (s.size : Int) := by omega
    have i5 : (i : Int) < 5 := by omega
    have d1 : decide ((i : Int) < (s.size : Int)) = true := by simp; omega
    have d2 : decide ((i : Int) < 5) = true := by simp; omega
    have w1 : IntKind.i64.wrap (10 * m) = 10 * m := IntWalk.i64_in _ (by omega)
    have w2 : IntKind.i64.wrap (10 * m + x) = 10 * m + x := IntWalk.i64_in _ (by omega)
    have w3 : IntKind.i64.wrap (10 * m + x - 48) = 10 * m + x - 48 := IntWalk.i64_in _ (by omega)
    have w4 : IntKind.i64.wrap x = x := IntWalk.i64_in _ (by omega)
    go_wp2_with fail
    go_roundw
    case measure => simp [intOf]; omega
    case rel => exact ⟨i + 1, 10 * m + x - 48, by omega, by omega, by go_num, by first | rfl | go_num, HT.out, HBL.out⟩
  · have HE := hide (HDONE.out i hi hi5 hit)
    rw [HM.out] at HE
    by_cases h1 : i < n
    · have i1 : (i : Int) < (s.size : Int) := by omega
      have i5 : ¬ (i : Int) < 5 := by omega
      have d1 : decide ((i : Int) < (s.size : Int)) = true := by simp; omega
      have d2 : decide ((i : Int) < 5) = false := by simp; omega
      go_wp2_with fail
      go_ret
      exact ⟨congrArg (fun z => Ending.returned (.int .i64 z)) HE.out, HBL.out⟩
    · have i1 : ¬ (i : Int) < (s.size : Int) := by omega
      have d1 : decide ((i : Int) < (s.size : Int)) = false := by simp; omega
      go_wp2_with fail
      go_ret
      exact ⟨congrArg (fun z => Ending.returned (.int .i64 z)) HE.out, HBL.out⟩
end Go.Proofs.YthdjgebbjogmiaaDoor
