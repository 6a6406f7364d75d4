/- caps.split: a text at its colons. Condition: at most a million letters.
Plain facts on a text's parts: how long they are, which kind a word is. No program in sight. -/
import Derived.Test.YthdjgebbjogmiaaDoorBy32
import Derived.Test.YthdjgebbjogmiaaDoorCapsLaw
namespace Go.Proofs.YthdjgebbjogmiaaDoor
open Go Go.RowKit
set_option maxRecDepth 100000

theorem drop_cut {xs : List Int} {f i : Nat} (hf : f ≤ i) (hi : i < xs.length) : xs.drop f = (xs.drop f).take (i - f) ++ xs.getD i 0 :: xs.drop (i + 1) := by
 conv => lhs; rw [← List.take_append_drop (i - f) (xs.drop f)]
 rw [List.drop_drop, show f + (i - f) = i by omega, List.drop_eq_getElem_cons hi, getD_el' xs i hi]
theorem split_at {xs : List Int} {f i : Nat} (hf : f ≤ i) (hi : i < xs.length) (hno : ∀ x ∈ (xs.drop f).take (i - f), x ≠ 58) (h : xs.getD i 0 = 58) :
 splitF (xs.drop f) = (xs.drop f).take (i - f) :: splitF (xs.drop (i + 1)) := by
 conv => lhs; rw [drop_cut hf hi, h]
 rw [splitF_cons hno]
theorem no_colon {xs : List Int} {f i : Nat} (hf : f ≤ i) (hi : i < xs.length) (hno : ∀ x ∈ (xs.drop f).take (i - f), x ≠ 58) (h : ¬ xs.getD i 0 = 58) :
 ∀ x ∈ (xs.drop f).take (i + 1 - f), x ≠ 58 := by
 rw [show i + 1 - f = (i - f) + 1 by omega, List.take_succ_eq_append_getElem (by rw [List.length_drop]; omega), List.getElem_drop]
 intro x hx
 rcases List.mem_append.1 hx with hx | hx
 · exact hno x hx
 · rw [List.mem_singleton] at hx
   subst hx
   rw [getD_el' xs i hi] at h
   simpa [show f + (i - f) = i by omega] using h
theorem split_end {xs : List Int} {f : Nat} (hno : ∀ x ∈ (xs.drop f).take (xs.length - f), x ≠ 58) : splitF (xs.drop f) = [xs.drop f] := by
 rw [List.take_of_length_le (by rw [List.length_drop]; exact Nat.le_refl _)] at hno
 exact splitF_none hno

/-- A row of strings of the call's own. -/
def strV (p : List Int) : Value := .string (strOfNums p)
def StrRow (w : World) (base : Nat) (v : Value) (ps : List (List Int)) : Prop := w.ownsRow base 9 1 v ps.length (ps.map strV)
theorem StrRow.nil_ (w : World) (base : Nat) : StrRow w base (.slice none 0 0) [] := World.ownsRow_nil _ _ _ _
theorem StrRow.keptB {w w' : World} {base : Nat} {v : Value} {ps : List (List Int)} (h : StrRow w base v ps) (hb : Below w.heap.size w w') : StrRow w' base v ps := own_keptB h hb
theorem StrRow.reads {w : World} {base : Nat} {v : Value} {ps : List (List Int)} (h : StrRow w base v ps) : Rd w w.heap.size 1 v ps.length (ps.map strV) := Rd.of_own h
theorem el_strs : ElemOf Tryd.prog 96 9 1 16 := elem_of Tryd.underlying96 (z := .string ByteArray.empty) (by kernel_rfl) rfl (by decide) (by decide)
/-- 'l = append(l, s)': the world behind the one-cell block of s. -/
theorem wpList_append_str {ops : Array Oper} {rest : List Oper} {o : Oper} {a : Act} {w : World} {Q : Exit → Act → World → Prop} (hgd : o.guard = none) (s x : Operand) (ho : o.op = .call { callee := .builtin .append, args := #[s, x], argTypes := #[96, 96] })
 (base : Nat) (v : Value) (ps : List (List Int)) (hs : a.eval s = v) (hown : StrRow w base v ps) (hB : base ≤ w.heap.size) (b : ByteArray) (r : List Int) (hb : b = strOfNums r)
 (hx : a.eval x = .slice (some ⟨w.heap.size, 0, none⟩) 1 1) (hn : ps.length ≤ 1000000)
 (h : ∀ v' w', StrRow w' base v' (ps ++ [r]) → Below base w w' → wpList Tryd.prog ops Q rest (a.put o.dst v') w') : wpList Tryd.prog ops Q (o :: rest) a (w.alloc (.cells #[.string b] 9)) := by
 subst hb
 have hba := (Below.refl w.heap.size w).alloc (Nat.le_refl _) (.cells #[.string (strOfNums r)] 9)
 have hown' := StrRow.keptB hown hba
 have hz := hba.size
 refine wpList_append_rd _ hgd s x _ ho base _ _ _ el_strs v ps.length _ hs hown' (w.heap.size + 1) _ 1 [.string (strOfNums r)] hx (Rd.one w 9 (.string (strOfNums r))) (fun z hz => by simp at hz; subst hz; rfl) (by omega) (by omega) ?_
 intro v' w' ho' hg _
 refine h v' w' ?_ ((hba.mono hB).grown hg (by omega) (own_base hown'))
 unfold StrRow
 rw [List.map_append, List.length_append]
 exact ho'
theorem extract_nums (s : ByteArray) (f i : Nat) : s.extract f i = strOfNums (((strB s).drop f).take (i - f)) := by
 obtain ⟨⟨l⟩⟩ := s
 rw [ByteArray.extract_mk]
 have h : ((strB ⟨⟨l⟩⟩).drop f).take (i - f) = strB ⟨((l.drop f).take (i - f)).toArray⟩ := by
  simp [strB, List.map_drop, List.map_take]
 rw [h, strOf_strB]

set_option maxHeartbeats 4000000 in
theorem split_any (s : ByteArray) (w : World) (hn : s.size ≤ 1000000) :
 Calls Tryd.prog 83 #[.string s] w fun e w' => ∃ v, e = .returned v ∧ StrRow w' w.heap.size v (splitF (strB s)) ∧ Below w.heap.size w w' := by
 have HSL := hide (strB_len s)
 have HAT := hide (fun (i : Nat) (h : i < s.size) => (show ∀ w : World, (Instr.index 9 (.string s) (.int .i64 (i : Int))).run Tryd.prog w = .ok (.int .u8 ((strB s).getD i 0)) w from fun w => by
  rw [run_index_string w 9 s .i64 (i : Int) Tryd.underlying9, dif_pos ⟨by omega, by omega⟩]
  simp only [Int.toNat_natCast]
  rw [strB, List.getD_eq_getElem?_getD, List.getElem?_map, List.getElem?_eq_getElem (by rw [Array.length_toList]; exact h)]
  rfl))
 have HEX := hide (extract_nums s)
 obtain ⟨xs, HXS⟩ : ∃ x, Hid (strB s = x) := ⟨_, hide rfl⟩
 rw [HXS.out] at HSL HAT HEX
 rw [HXS.out]
 obtain ⟨n, HN⟩ : ∃ n, Hid (s.size = n) := ⟨_, hide rfl⟩
 have hsn : s.size ≤ n := by rw [HN.out]; exact Nat.le_refl _
 have hns : n ≤ s.size := by rw [HN.out]; exact Nat.le_refl _
 rw [HN.out] at HSL
 clear HXS
 go_enter Tryd.func83, Tryd.ntmps83
 go_wp2_with fail
 go_loopw [3, 4, 5] (fun v3 v4 v5 wr => ∃ (i f : Nat) (out : List (List Int)), i ≤ n ∧ f ≤ i ∧ v5 = .int .i64 i ∧ v4 = .int .i64 f ∧ out.length ≤ f ∧ StrRow wr w.heap.size v3 out ∧ splitF xs = out ++ splitF (xs.drop f) ∧ (∀ x ∈ (xs.drop f).take (i - f), x ≠ 58) ∧ Below w.heap.size w wr) (fun _ _ v5 _ => n - (intOf v5).toNat)
 case atStart => exact ⟨0, 0, [], by omega, by omega, rfl, rfl, by simp, StrRow.nil_ _ _, by simp, by simp, Below.refl _ _⟩
 case round =>
  obtain ⟨i, f, out, hi, hf, rfl, rfl, hol, ho, hsp, hno, hbel⟩ := hrel
  have HO := hide ho
  have HSP := hide hsp
  have HNO := hide hno
  have HB := hide hbel
  have hwz := hbel.size
  clear ho hsp hno hbel
  by_cases hit : i < n
  · have hat := HAT.out i (by omega)
    obtain ⟨x, HX⟩ : ∃ x, Hid (xs.getD i 0 = x) := ⟨_, hide rfl⟩
    rw [HX.out] at hat
    have i1 : (i : Int) < (s.size : Int) := by omega
    have i2 : (i : Int) ≤ (s.size : Int) := by omega
    have i3 : (f : Int) ≤ (i : Int) := by omega
    have i4 : (f : Int) ≤ (s.size : Int) := by omega
    by_cases hx : x = 58
    · have hxb : (x == 58) = true := by simp [hx]
      have HS2 := hide (split_at hf (by rw [HSL.out]; exact hit) HNO.out (by rw [HX.out, hx]))
      subst hx
      go_wp2_with (first
       | (at_builtin; go_must (refine wpList_append_str rfl _ _ rfl w.heap.size _ out rfl HO.out (by omega) _ _ (HEX.out f i) rfl (by omega) ?_); intro v9 w9 ho9 hb9; have HO9 := hide ho9; have HB9 := hide (HB.out.trans hb9); clear ho9 hb9))
      go_roundw
      case measure => simp [intOf]; omega
      case rel => exact ⟨i + 1, i + 1, out ++ [(xs.drop f).take (i - f)], by omega, by omega, by go_num, by go_num, by simp; omega, HO9.out, by rw [HSP.out, HS2.out]; simp, by simp, HB9.out⟩
    · have hxb : (x == 58) = false := by simp [hx]
      have HN2 := hide (no_colon hf (by rw [HSL.out]; exact hit) HNO.out (by rw [HX.out]; exact hx))
      go_wp2_with fail
      go_roundw
      case measure => simp [intOf]; omega
      case rel => exact ⟨i + 1, f, out, by omega, by omega, by go_num, rfl, by omega, HO.out, HSP.out, HN2.out, HB.out⟩
  · have e : i = n := by omega
    subst e
    have i1 : ¬ (i : Int) < (s.size : Int) := by omega
    have i4 : (f : Int) ≤ (s.size : Int) := by omega
    have HE := hide (show splitF xs = out ++ [xs.drop f] by rw [HSP.out, split_end (by rw [HSL.out]; exact HNO.out)])
    have HXE := hide (show s.extract f s.size = strOfNums (xs.drop f) by rw [HEX.out, List.take_of_length_le (by rw [List.length_drop, HSL.out]; omega)])
    go_wp2_with (first
     | (at_builtin; go_must (refine wpList_append_str rfl _ _ rfl w.heap.size _ out rfl HO.out (by omega) _ _ HXE.out rfl (by omega) ?_); intro v9 w9 ho9 hb9; have HO9 := hide ho9; have HB9 := hide (HB.out.trans hb9); clear ho9 hb9))
    go_ret
    exact ⟨_, rfl, by rw [HE.out]; exact HO9.out, HB9.out⟩
end Go.Proofs.YthdjgebbjogmiaaDoor

namespace Go.Proofs.YthdjgebbjogmiaaDoor
open Go Go.RowKit
set_option maxRecDepth 100000

theorem splitF_len : ∀ (s : List Int), ∀ p ∈ splitF s, p.length ≤ s.length
 | [], p, hp => by simp [splitF] at hp; subst hp; simp
 | c :: cs, p, hp => by
  have ih := splitF_len cs
  rw [splitF] at hp
  split at hp
  · rcases List.mem_cons.1 hp with rfl | hp
    · simp
    · have := ih p hp; simp; omega
  · split at hp
    · rw [List.mem_singleton] at hp; subst hp; simp
    · next q qs he =>
      rcases List.mem_cons.1 hp with rfl | hp
      · have := ih q (by rw [he]; simp); simp; omega
      · have := ih p (by rw [he]; simp [hp]); simp; omega
theorem splitF_bytes : ∀ (s : List Int), Bytes s → ∀ p ∈ splitF s, Bytes p
 | [], _, p, hp => by simp [splitF] at hp; subst hp; intro x hx; cases hx
 | c :: cs, hb, p, hp => by
  have hc : 0 ≤ c ∧ c < 256 := hb c (by simp)
  have ih := splitF_bytes cs (fun x hx => hb x (by simp [hx]))
  rw [splitF] at hp
  split at hp
  · rcases List.mem_cons.1 hp with rfl | hp
    · intro x hx; cases hx
    · exact ih p hp
  · split at hp
    · rw [List.mem_singleton] at hp; subst hp; intro x hx; rw [List.mem_singleton] at hx; subst hx; exact hc
    · next q qs he =>
      rcases List.mem_cons.1 hp with rfl | hp
      · intro x hx
        rcases List.mem_cons.1 hx with rfl | hx
        · exact hc
        · exact ih q (by rw [he]; simp) x hx
      · exact ih p (by rw [he]; simp [hp])
theorem splitF_count : ∀ (s : List Int), 0 < (splitF s).length ∧ (splitF s).length ≤ s.length + 1
 | [] => by simp [splitF]
 | c :: cs => by
  have ih := splitF_count cs
  rw [splitF]
  split
  · simp; omega
  · split
    · simp
    · next q qs he => rw [he] at ih; simp at ih ⊢; omega
theorem part_len (s : List Int) (k : Nat) : ((splitF s).getD k []).length ≤ s.length := by
 rcases Nat.lt_or_ge k (splitF s).length with h | h
 · rw [List.getD_eq_getElem?_getD, List.getElem?_eq_getElem h]; exact splitF_len s _ (List.getElem_mem h)
 · rw [List.getD_eq_getElem?_getD, List.getElem?_eq_none h]; simp
theorem part_bytes {s : List Int} (hb : Bytes s) (k : Nat) : Bytes ((splitF s).getD k []) := by
 rcases Nat.lt_or_ge k (splitF s).length with h | h
 · rw [List.getD_eq_getElem?_getD, List.getElem?_eq_getElem h]; exact splitF_bytes s hb _ (List.getElem_mem h)
 · rw [List.getD_eq_getElem?_getD, List.getElem?_eq_none h]; intro x hx; cases hx
theorem by32_len : ∀ (ks : List Nat) (g m : Nat), (by32 g m ks).length ≤ ks.length
 | [], g, m => by rw [by32]; simp
 | k :: ks, g, m => by
  rcases Nat.lt_or_ge (m + 5) 8 with h | h
  · rw [by32_low g m k ks h]; have := by32_len ks (g * 32 + k) (m + 5); simp; omega
  · rw [by32_high g m k ks h]; have := by32_len ks ((g * 32 + k) % 2 ^ (m - 3)) (m - 3); simp; omega
theorem vals_len : ∀ (s : List Int) (ks : List Nat), vals s = some ks → ks.length = s.length
 | [], ks, h => by rw [vals] at h; cases h; rfl
 | c :: s, ks, h => by
  rw [vals] at h
  obtain ⟨k, hk, h⟩ := Option.bind_eq_some_iff.1 h
  obtain ⟨js, hj, rfl⟩ := Option.map_eq_some_iff.1 h
  have := vals_len s js hj
  simp [this]
theorem bytes32_len {s b : List Int} (h : bytes32F s = some b) : b.length ≤ s.length := by
 unfold bytes32F at h
 obtain ⟨ks, hk, h⟩ := Option.bind_eq_some_iff.1 h
 split at h
 · cases h; have := by32_len ks 0 0; have := vals_len s ks hk; omega
 · cases h

/-- Which kind has this word, of the first k ones? -/
def kindN (p : List Int) : Nat → Int
 | 0 => 0
 | k + 1 => if 0 < k ∧ wordL k = p then (k : Int) else kindN p k
theorem kindN_all (p : List Int) : kindN p 10 = kindF p := by
 by_cases h1 : p = wordL 1
 · subst h1; decide
 by_cases h2 : p = wordL 2
 · subst h2; decide
 by_cases h3 : p = wordL 3
 · subst h3; decide
 by_cases h4 : p = wordL 4
 · subst h4; decide
 by_cases h5 : p = wordL 5
 · subst h5; decide
 by_cases h6 : p = wordL 6
 · subst h6; decide
 by_cases h7 : p = wordL 7
 · subst h7; decide
 by_cases h8 : p = wordL 8
 · subst h8; decide
 by_cases h9 : p = wordL 9
 · subst h9; decide
 have e : ∀ k, wordL k = p ↔ p = wordL k := fun k => eq_comm
 simp only [kindN, kindF, e, h1, h2, h3, h4, h5, h6, h7, h8, h9, and_false, if_false]
 simp
theorem kindN_bound (p : List Int) : ∀ k, 0 ≤ kindN p k ∧ kindN p k ≤ k
 | 0 => by simp [kindN]
 | k + 1 => by
  have := kindN_bound p k
  rw [kindN]
  split <;> omega

section
variable {s : List Int} {L : List (List Int)} (hL : splitF s = L)
include hL
theorem cand_short (h : L.length < 3) : candP s = none := by
 subst hL; unfold candP; simp only; rw [if_pos h]
theorem cand_no2 (h : 3 ≤ L.length) (hb : bytes32F (L.getD 2 []) = none) : candP s = none := by
 subst hL; unfold candP; simp only; rw [if_neg (by omega), hb]; rfl
theorem cand_lit {a : List Int} (h : 3 ≤ L.length) (hb : bytes32F (L.getD 2 []) = some a) (hk : kindF (L.getD 1 []) = 3) : candP s = some ⟨3, zeros 16, zeros 32, 0, 0, 0, a⟩ := by
 subst hL; unfold candP; simp only; rw [if_neg (by omega), hb, Option.bind_some, if_pos hk]
theorem cand_bare {a : List Int} (h : 3 ≤ L.length) (hb : bytes32F (L.getD 2 []) = some a) (hk : ¬ kindF (L.getD 1 []) = 3) (h4 : ¬ 3 < L.length) : candP s = some ⟨kindF (L.getD 1 []), zeros 16, zeros 32, 0, 0, 0, []⟩ := by
 subst hL; unfold candP; simp only; rw [if_neg (by omega), hb, Option.bind_some, if_neg hk, if_neg (by omega)]
theorem cand_no3 {a : List Int} (h : 3 < L.length) (hb : bytes32F (L.getD 2 []) = some a) (hk : ¬ kindF (L.getD 1 []) = 3) (h4 : bytes32F (L.getD 3 []) = none) : candP s = none := by
 subst hL; unfold candP; simp only; rw [if_neg (by omega), hb, Option.bind_some, if_neg hk, if_pos (by omega), h4]; rfl
theorem cand_len {a b : List Int} (h : 3 < L.length) (hb : bytes32F (L.getD 2 []) = some a) (hk : ¬ kindF (L.getD 1 []) = 3) (h4 : bytes32F (L.getD 3 []) = some b) (h5 : ¬ (a.length = 16 ∧ b.length = 32)) : candP s = none := by
 subst hL; unfold candP; simp only; rw [if_neg (by omega), hb, Option.bind_some, if_neg hk, if_pos (by omega), h4, Option.bind_some, if_neg h5]
theorem cand_slot {a b : List Int} (h : 3 < L.length) (hb : bytes32F (L.getD 2 []) = some a) (hk : ¬ kindF (L.getD 1 []) = 3) (h4 : bytes32F (L.getD 3 []) = some b) (h5 : a.length = 16 ∧ b.length = 32) (h7 : ¬ L.length = 7) :
 candP s = some ⟨kindF (L.getD 1 []), a, b, 0, 0, 0, []⟩ := by
 subst hL; unfold candP; simp only; rw [if_neg (by omega), hb, Option.bind_some, if_neg hk, if_pos (by omega), h4, Option.bind_some, if_pos h5, if_neg h7]
theorem cand_file {a b : List Int} (hb : bytes32F (L.getD 2 []) = some a) (hk : ¬ kindF (L.getD 1 []) = 3) (h4 : bytes32F (L.getD 3 []) = some b) (h5 : a.length = 16 ∧ b.length = 32) (h7 : L.length = 7) :
 candP s = some ⟨kindF (L.getD 1 []), a, b, numP (L.getD 4 []), numP (L.getD 5 []), numP (L.getD 6 []), []⟩ := by
 subst hL; unfold candP; simp only; rw [if_neg (by omega), hb, Option.bind_some, if_neg hk, if_pos (by omega), h4, Option.bind_some, if_pos h5, if_pos h7]
end
theorem parse_none {s : List Int} (h : candP s = none) : parseF s = none := by unfold parseF pick; rw [h]; rfl
theorem parse_some {s : List Int} {c : CapD} (h : candP s = some c) (hv : c.Valid) (hp : printF c = s) : parseF s = some c := by unfold parseF pick; rw [h, Option.bind_some, if_pos ⟨hv, hp⟩]
theorem parse_not {s : List Int} {c : CapD} (h : candP s = some c) (hn : ¬ (c.Valid ∧ printF c = s)) : parseF s = none := by unfold parseF pick; rw [h, Option.bind_some, if_neg hn]
theorem wordS_eq {p : List Int} (hb : Bytes p) {k : Nat} (hk : k < 10) : strOfNums (wordL k) = strOfNums p ↔ wordL k = p := strOf_inj (fun x hx => (wordL_ok ⟨k, hk⟩ x hx).2) hb
end Go.Proofs.YthdjgebbjogmiaaDoor
