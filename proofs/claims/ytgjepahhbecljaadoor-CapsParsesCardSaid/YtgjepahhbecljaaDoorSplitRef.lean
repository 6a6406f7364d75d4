/- aumbryref13.parts: a text between colons. Condition: at most a million letters. -/
import Derived.Test.YtgjepahhbecljaaDoorSplit
import Derived.BigQuiet
namespace Go.Proofs.YtgjepahhbecljaaDoor
open Go Go.RowKit

set_option maxHeartbeats 4000000 in
theorem split_ref (s : ByteArray) (w : World) (hn : s.size ≤ 1000000) :
    Calls Tryd.prog 66 #[.string s] w fun e w' => ∃ v, e = .returned v ∧ StrRow w' w.heap.size v (splitF (strB s)) ∧ Below w.heap.size w w' := by
  have HSL := hide (strB_len s)
  have HAT := hide (fun (i : Nat) (h : i < s.size) => (show ∀ w : World, (Instr.index 9 (.string s) (.int .i64 (i : Int))).run Tryd.prog w = .ok (.int .u8 ((strB s).getD i 0)) w from fun w => by
    rw [run_index_string w 9 s .i64 (i : Int) Tryd.underlying9, dif_pos ⟨by omega, by omega⟩]
    simp only [Int.toNat_natCast]
    rw [strB, List.getD_eq_getElem?_getD, List.getElem?_map, List.getElem?_eq_getElem (by rw [Array.length_toList]; exact h)]
    rfl))
  have HEX := hide (extract_nums s)
  obtain ⟨xs, HXS⟩ : ∃ x, Hid (strB s = x) := ⟨_, hide rfl⟩
  rw [HXS.out] at HSL HAT HEX
  rw [HXS.out]
  obtain ⟨n, HN⟩ : ∃ n, Hid (s.size = n) := ⟨_, hide rfl⟩
  have hsn : s.size ≤ n := by rw [HN.out]; exact Nat.le_refl _
  have hns : n ≤ s.size := by rw [HN.out]; exact Nat.le_refl _
  rw [HN.out] at HSL
  clear HXS
  go_enter Tryd.func66, Tryd.ntmps66
  go_wp2_with fail
  go_loopw [3, 4, 5] (fun v3 v4 v5 wr => ∃ (i f : Nat) (out : List (List Int)), i ≤ n + 1 ∧ v5 = .int .i64 i ∧ v4 = .int .i64 f ∧ out.length ≤ i ∧ StrRow wr w.heap.size v3 out ∧
    ((i ≤ n ∧ f ≤ i ∧ splitF xs = out ++ splitF (xs.drop f) ∧ (∀ x ∈ (xs.drop f).take (i - f), x ≠ 58)) ∨ (i = n + 1 ∧ splitF xs = out)) ∧ Below w.heap.size w wr) (fun _ _ v5 _ => n + 1 - (intOf v5).toNat)
  case atStart => exact ⟨0, 0, [], by omega, rfl, rfl, by simp, StrRow.nil_ _ _, .inl ⟨by omega, by omega, by simp, by simp⟩, Below.refl _ _⟩
  case round =>
    obtain ⟨i, f, out, hi, rfl, rfl, hol, ho, hcase, hbel⟩ := hrel
    have HO := hide ho
    have HB := hide hbel
    have hwz := hbel.size
    clear ho hbel
    rcases hcase with ⟨hin, hf, hsp, hno⟩ | ⟨hin, hsp⟩
    · have HSP := hide hsp
      have HNO := hide hno
      clear hsp hno
      have i0 : (i : Int) ≤ (s.size : Int) := by omega
      have i3 : (f : Int) ≤ (i : Int) := by omega
      have i4 : (f : Int) ≤ (s.size : Int) := by omega
      by_cases hit : i < n
      · have hat := HAT.out i (by omega)
        obtain ⟨x, HX⟩ : ∃ x, Hid (xs.getD i 0 = x) := ⟨_, hide rfl⟩
        rw [HX.out] at hat
        have i1 : (i : Int) < (s.size : Int) := by omega
        have d1 : ((i : Int) == (s.size : Int)) = false := by simp; omega
        by_cases hx : x = 58
        · have hxb : (x == 58) = true := by simp [hx]
          have HS2 := hide (split_at hf (by rw [HSL.out]; exact hit) HNO.out (by rw [HX.out, hx]))
          subst hx
          go_wp2_with (first
            | (at_builtin; go_must (refine wpList_append_str rfl _ _ rfl w.heap.size _ out rfl HO.out (by omega) _ _ (HEX.out f i) rfl (by omega) ?_); intro v9 w9 ho9 hb9; have HO9 := hide ho9; have HB9 := hide (HB.out.trans hb9); clear ho9 hb9))
          go_roundw
          case measure => simp [intOf]; omega
          case rel => exact ⟨i + 1, i + 1, out ++ [(xs.drop f).take (i - f)], by omega, by go_num, by go_num, by simp; omega, HO9.out, .inl ⟨by omega, by omega, by rw [HSP.out, HS2.out]; simp, by simp⟩, HB9.out⟩
        · have hxb : (x == 58) = false := by simp [hx]
          have HN2 := hide (no_colon hf (by rw [HSL.out]; exact hit) HNO.out (by rw [HX.out]; exact hx))
          go_wp2_with fail
          go_roundw
          case measure => simp [intOf]; omega
          case rel => exact ⟨i + 1, f, out, by omega, by go_num, rfl, by omega, HO.out, .inl ⟨by omega, by omega, HSP.out, HN2.out⟩, HB.out⟩
      · have e : i = n := by omega
        have hil : ¬ (i : Int) < (s.size : Int) := by omega
        have d1 : ((i : Int) == (s.size : Int)) = true := by simp; omega
        have HE := hide (show splitF xs = out ++ [xs.drop f] by rw [HSP.out, split_end (by rw [HSL.out, ← e]; exact HNO.out)])
        have HXE := hide (show s.extract f s.size = strOfNums (xs.drop f) by rw [HEX.out, List.take_of_length_le (by rw [List.length_drop, HSL.out]; omega)])
        go_wp2_with (first
          | (at_builtin; go_must (refine wpList_append_str rfl _ _ rfl w.heap.size _ out rfl HO.out (by omega) _ _ HXE.out rfl (by omega) ?_); intro v9 w9 ho9 hb9; have HO9 := hide ho9; have HB9 := hide (HB.out.trans hb9); clear ho9 hb9))
        go_roundw
        case measure => simp [intOf]; omega
        case rel => exact ⟨s.size + 1, s.size + 1, out ++ [xs.drop f], by omega, by go_num, by go_num, by simp; omega, HO9.out, .inr ⟨by omega, HE.out⟩, HB9.out⟩
    · have HSP := hide hsp
      clear hsp
      have i0 : ¬ (i : Int) ≤ (s.size : Int) := by omega
      go_wp2_with fail
      go_ret
      exact ⟨_, rfl, by rw [HSP.out]; exact HO.out, HB.out⟩
end Go.Proofs.YtgjepahhbecljaaDoor
