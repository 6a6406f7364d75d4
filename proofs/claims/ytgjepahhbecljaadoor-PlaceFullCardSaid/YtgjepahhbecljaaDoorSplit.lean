/- caps.split: a text at its colons. Condition: at most a million letters. -/
import Derived.Test.YtgjepahhbecljaaDoorBy32
import Derived.Test.YtgjepahhbecljaaDoorCapsLaw
namespace Go.Proofs.YtgjepahhbecljaaDoor
open Go Go.RowKit

theorem drop_cut {xs : List Int} {f i : Nat} (hf : f ≤ i) (hi : i < xs.length) : xs.drop f = (xs.drop f).take (i - f) ++ xs.getD i 0 :: xs.drop (i + 1) := by
  conv => lhs; rw [← List.take_append_drop (i - f) (xs.drop f)]
  rw [List.drop_drop, show f + (i - f) = i by omega, List.drop_eq_getElem_cons hi, getD_el' xs i hi]
theorem split_at {xs : List Int} {f i : Nat} (hf : f ≤ i) (hi : i < xs.length) (hno : ∀ x ∈ (xs.drop f).take (i - f), x ≠ 58) (h : xs.getD i 0 = 58) :
    splitF (xs.drop f) = (xs.drop f).take (i - f) :: splitF (xs.drop (i + 1)) := by
  conv => lhs; rw [drop_cut hf hi, h]
  rw [splitF_cons hno]
theorem no_colon {xs : List Int} {f i : Nat} (hf : f ≤ i) (hi : i < xs.length) (hno : ∀ x ∈ (xs.drop f).take (i - f), x ≠ 58) (h : ¬ xs.getD i 0 = 58) :
    ∀ x ∈ (xs.drop f).take (i + 1 - f), x ≠ 58 := by
  rw [show i + 1 - f = (i - f) + 1 by omega, List.take_succ_eq_append_getElem (by rw [List.length_drop]; omega), List.getElem_drop]
  intro x hx
  rcases List.mem_append.1 hx with hx | hx
  · exact hno x hx
  · rw [List.mem_singleton] at hx
    subst hx
    rw [getD_el' xs i hi] at h
    simpa [show f + (i - f) = i by omega] using h
theorem split_end {xs : List Int} {f : Nat} (hno : ∀ x ∈ (xs.drop f).take (xs.length - f), x ≠ 58) : splitF (xs.drop f) = [xs.drop f] := by
  rw [List.take_of_length_le (by rw [List.length_drop]; exact Nat.le_refl _)] at hno
  exact splitF_none hno

/-- A row of strings of the call's own. -/
def strV (p : List Int) : Value := .string (strOfNums p)
def StrRow (w : World) (base : Nat) (v : Value) (ps : List (List Int)) : Prop := w.ownsRow base 9 1 v ps.length (ps.map strV)
theorem StrRow.nil_ (w : World) (base : Nat) : StrRow w base (.slice none 0 0) [] := World.ownsRow_nil _ _ _ _
theorem StrRow.keptB {w w' : World} {base : Nat} {v : Value} {ps : List (List Int)} (h : StrRow w base v ps) (hb : Below w.heap.size w w') : StrRow w' base v ps := own_keptB h hb
theorem StrRow.reads {w : World} {base : Nat} {v : Value} {ps : List (List Int)} (h : StrRow w base v ps) : Rd w w.heap.size 1 v ps.length (ps.map strV) := Rd.of_own h
theorem el_strs : ElemOf Tryd.prog 70 9 1 16 := elem_of Tryd.underlying70 (z := .string ByteArray.empty) (by kernel_rfl) rfl (by decide) (by decide)
/-- 'l = append(l, s)': the world behind the one-cell block of s. -/
theorem wpList_append_str {ops : Array Oper} {rest : List Oper} {o : Oper} {a : Act} {w : World} {Q : Exit → Act → World → Prop} (hgd : o.guard = none) (s x : Operand) (ho : o.op = .call { callee := .builtin .append, args := #[s, x], argTypes := #[70, 70] })
    (base : Nat) (v : Value) (ps : List (List Int)) (hs : a.eval s = v) (hown : StrRow w base v ps) (hB : base ≤ w.heap.size) (b : ByteArray) (r : List Int) (hb : b = strOfNums r)
    (hx : a.eval x = .slice (some ⟨w.heap.size, 0, none⟩) 1 1) (hn : ps.length ≤ 1000000)
    (h : ∀ v' w', StrRow w' base v' (ps ++ [r]) → Below base w w' → wpList Tryd.prog ops Q rest (a.put o.dst v') w') : wpList Tryd.prog ops Q (o :: rest) a (w.alloc (.cells #[.string b] 9)) := by
  subst hb
  have hba := (Below.refl w.heap.size w).alloc (Nat.le_refl _) (.cells #[.string (strOfNums r)] 9)
  have hown' := StrRow.keptB hown hba
  have hz := hba.size
  refine wpList_append_rd _ hgd s x _ ho base _ _ _ el_strs v ps.length _ hs hown' (w.heap.size + 1) _ 1 [.string (strOfNums r)] hx (Rd.one w 9 (.string (strOfNums r))) (fun z hz => by simp at hz; subst hz; rfl) (by omega) (by omega) ?_
  intro v' w' ho' hg _
  refine h v' w' ?_ ((hba.mono hB).grown hg (by omega) (own_base hown'))
  unfold StrRow
  rw [List.map_append, List.length_append]
  exact ho'
theorem extract_nums (s : ByteArray) (f i : Nat) : s.extract f i = strOfNums (((strB s).drop f).take (i - f)) := by
  obtain ⟨⟨l⟩⟩ := s
  rw [ByteArray.extract_mk]
  have h : ((strB ⟨⟨l⟩⟩).drop f).take (i - f) = strB ⟨((l.drop f).take (i - f)).toArray⟩ := by
    simp [strB, List.map_drop, List.map_take]
  rw [h, strOf_strB]

set_option maxHeartbeats 4000000 in
theorem split_any (s : ByteArray) (w : World) (hn : s.size ≤ 1000000) :
    Calls Tryd.prog 63 #[.string s] w fun e w' => ∃ v, e = .returned v ∧ StrRow w' w.heap.size v (splitF (strB s)) ∧ Below w.heap.size w w' := by
  have HSL := hide (strB_len s)
  have HAT := hide (fun (i : Nat) (h : i < s.size) => (show ∀ w : World, (Instr.index 9 (.string s) (.int .i64 (i : Int))).run Tryd.prog w = .ok (.int .u8 ((strB s).getD i 0)) w from fun w => by
    rw [run_index_string w 9 s .i64 (i : Int) Tryd.underlying9, dif_pos ⟨by omega, by omega⟩]
    simp only [Int.toNat_natCast]
    rw [strB, List.getD_eq_getElem?_getD, List.getElem?_map, List.getElem?_eq_getElem (by rw [Array.length_toList]; exact h)]
    rfl))
  have HEX := hide (extract_nums s)
  obtain ⟨xs, HXS⟩ : ∃ x, Hid (strB s = x) := ⟨_, hide rfl⟩
  rw [HXS.out] at HSL HAT HEX
  rw [HXS.out]
  obtain ⟨n, HN⟩ : ∃ n, Hid (s.size = n) := ⟨_, hide rfl⟩
  have hsn : s.size ≤ n := by rw [HN.out]; exact Nat.le_refl _
  have hns : n ≤ s.size := by rw [HN.out]; exact Nat.le_refl _
  rw [HN.out] at HSL
  clear HXS
  go_enter Tryd.func63, Tryd.ntmps63
  go_wp2_with fail
  go_loopw [3, 4, 5] (fun v3 v4 v5 wr => ∃ (i f : Nat) (out : List (List Int)), i ≤ n ∧ f ≤ i ∧ v5 = .int .i64 i ∧ v4 = .int .i64 f ∧ out.length ≤ f ∧ StrRow wr w.heap.size v3 out ∧ splitF xs = out ++ splitF (xs.drop f) ∧ (∀ x ∈ (xs.drop f).take (i - f), x ≠ 58) ∧ Below w.heap.size w wr) (fun _ _ v5 _ => n - (intOf v5).toNat)
  case atStart => exact ⟨0, 0, [], by omega, by omega, rfl, rfl, by simp, StrRow.nil_ _ _, by simp, by simp, Below.refl _ _⟩
  case round =>
    obtain ⟨i, f, out, hi, hf, rfl, rfl, hol, ho, hsp, hno, hbel⟩ := hrel
    have HO := hide ho
    have HSP := hide hsp
    have HNO := hide hno
    have HB := hide hbel
    have hwz := hbel.size
    clear ho hsp hno hbel
    by_cases hit : i < n
    · have hat := HAT.out i (by omega)
      obtain ⟨x, HX⟩ : ∃ x, Hid (xs.getD i 0 = x) := ⟨_, hide rfl⟩
      rw [HX.out] at hat
      have i1 : (i : Int) < (s.size : Int) := by omega
      have i2 : (i : Int) ≤ (s.size : Int) := by omega
      have i3 : (f : Int) ≤ (i : Int) := by omega
      have i4 : (f : Int) ≤ (s.size : Int) := by omega
      by_cases hx : x = 58
      · have hxb : (x == 58) = true := by simp [hx]
        have HS2 := hide (split_at hf (by rw [HSL.out]; exact hit) HNO.out (by rw [HX.out, hx]))
        subst hx
        go_wp2_with (first
          | (at_builtin; go_must (refine wpList_append_str rfl _ _ rfl w.heap.size _ out rfl HO.out (by omega) _ _ (HEX.out f i) rfl (by omega) ?_); intro v9 w9 ho9 hb9; have HO9 := hide ho9; have HB9 := hide (HB.out.trans hb9); clear ho9 hb9))
        go_roundw
        case measure => simp [intOf]; omega
        case rel => exact ⟨i + 1, i + 1, out ++ [(xs.drop f).take (i - f)], by omega, by omega, by go_num, by go_num, by simp; omega, HO9.out, by rw [HSP.out, HS2.out]; simp, by simp, HB9.out⟩
      · have hxb : (x == 58) = false := by simp [hx]
        have HN2 := hide (no_colon hf (by rw [HSL.out]; exact hit) HNO.out (by rw [HX.out]; exact hx))
        go_wp2_with fail
        go_roundw
        case measure => simp [intOf]; omega
        case rel => exact ⟨i + 1, f, out, by omega, by omega, by go_num, rfl, by omega, HO.out, HSP.out, HN2.out, HB.out⟩
    · have e : i = n := by omega
      subst e
      have i1 : ¬ (i : Int) < (s.size : Int) := by omega
      have i4 : (f : Int) ≤ (s.size : Int) := by omega
      have HE := hide (show splitF xs = out ++ [xs.drop f] by rw [HSP.out, split_end (by rw [HSL.out]; exact HNO.out)])
      have HXE := hide (show s.extract f s.size = strOfNums (xs.drop f) by rw [HEX.out, List.take_of_length_le (by rw [List.length_drop, HSL.out]; omega)])
      go_wp2_with (first
        | (at_builtin; go_must (refine wpList_append_str rfl _ _ rfl w.heap.size _ out rfl HO.out (by omega) _ _ HXE.out rfl (by omega) ?_); intro v9 w9 ho9 hb9; have HO9 := hide ho9; have HB9 := hide (HB.out.trans hb9); clear ho9 hb9))
      go_ret
      exact ⟨_, rfl, by rw [HE.out]; exact HO9.out, HB9.out⟩
end Go.Proofs.YtgjepahhbecljaaDoor
