/- code.Bytes32: the bytes of letters, or that there are none. Condition: at most 2^40 letters.
caps.split: a text at its colons. Condition: at most a million letters.
Plain facts on a text's parts: how long they are, which kind a word is. No program in sight. -/
import Derived.Test.YthdjgebbjogmiaaDoorJoin3
import Derived.BigQuiet
import Derived.Test.YthdjgebbjogmiaaDoorJoin5
set_option linter.unusedVariables false
set_option linter.unusedSimpArgs false
namespace Go.Proofs.YthdjgebbjogmiaaDoor
open Go Go.RowKit
set_option maxRecDepth 100000

theorem str_ne {a b : ByteArray} (h : ¬ a = b) : (a.toList == b.toList) = false := by
 rw [beq_eq_false_iff_ne, ByteArray.toList_eq, ByteArray.toList_eq]
 exact fun e => h (Go.WideShapes.bytes_inj e)
theorem vals_app : ∀ (a b : List Int), vals (a ++ b) = (vals a).bind fun x => (vals b).map (x ++ ·)
 | [], b => by
  rw [List.nil_append]
  show _ = (vals b).map ([] ++ ·)
  cases vals b <;> rfl
 | c :: a, b => by
  rw [List.cons_append, vals, vals_app a b, vals]
  cases valOf c with
  | none => rfl
  | some k =>
   simp only [Option.bind_some]
   cases vals a with
   | none => rfl
   | some x =>
    simp only [Option.bind_some, Option.map_some]
    cases vals b <;> rfl
theorem vals_snoc {xs : List Int} {i k : Nat} {ks : List Nat} (h : i < xs.length) (h1 : vals (xs.take i) = some ks) (h2 : ltr k = xs.getD i 0) (hk : k < 32) : vals (xs.take (i + 1)) = some (ks ++ [k]) := by
 rw [List.take_succ_eq_append_getElem h, vals_app, h1, ← getD_el' xs i h, ← h2]
 simp [vals, valOf_ltr hk]
theorem vals_bad {xs : List Int} {i : Nat} (h : i < xs.length) (h2 : ∀ j, j < 32 → ¬ ltr j = xs.getD i 0) : vals xs = none := by
 have hv : valOf xs[i] = none := by
  cases e : valOf xs[i] with
  | none => rfl
  | some k =>
   obtain ⟨hk, hl⟩ := valOf_some e
   exact absurd (by rw [hl, getD_el' xs i h]) (h2 k hk)
 conv => lhs; rw [← List.take_append_drop i xs, List.drop_eq_getElem_cons h]
 rw [vals_app, vals, hv]
 cases vals (xs.take i) <;> rfl
theorem by32_low (g m k : Nat) (ks : List Nat) (h : m + 5 < 8) : by32 g m (k :: ks) = by32 (g * 32 + k) (m + 5) ks := by rw [by32, if_neg (by omega)]
theorem by32_high (g m k : Nat) (ks : List Nat) (h : 8 ≤ m + 5) : by32 g m (k :: ks) = (((g * 32 + k) / 2 ^ (m - 3) % 256 : Nat) : Int) :: by32 ((g * 32 + k) % 2 ^ (m - 3)) (m - 3) ks := by rw [by32, if_pos h]

/-- What Bytes32 answers. -/
def By32Post (w : World) (xs : List Int) (e : Ending) (w' : World) : Prop :=
 (∃ v b, bytes32F xs = some b ∧ e = .returned (.tuple #[v, .bool true]) ∧ RowB w' w.heap.size v b ∧ Below w.heap.size w w') ∨
 (bytes32F xs = none ∧ e = .returned (.tuple #[.slice none 0 0, .bool false]) ∧ Below w.heap.size w w')

set_option maxHeartbeats 4000000 in
theorem Bytes32_any (s : ByteArray) (w : World) (hn : s.size ≤ 1099511627776) :
 Calls Tryd.prog 84 #[.string s] w (By32Post w (strB s)) := by
 have HSL := hide (strB_len s)
 have HSB := hide (strB_bytes s)
 have HSS := hide (strOf_strB s)
 have HAT := hide (fun (i : Nat) (h : i < s.size) => (show ∀ w : World, (Instr.index 9 (.string s) (.int .i64 (i : Int))).run Tryd.prog w = .ok (.int .u8 ((strB s).getD i 0)) w from fun w => by
  rw [run_index_string w 9 s .i64 (i : Int) Tryd.underlying9, dif_pos ⟨by omega, by omega⟩]
  simp only [Int.toNat_natCast]
  rw [strB, List.getD_eq_getElem?_getD, List.getElem?_map, List.getElem?_eq_getElem (by rw [Array.length_toList]; exact h)]
  rfl))
 obtain ⟨xs, HXS⟩ : ∃ x, Hid (strB s = x) := ⟨_, hide rfl⟩
 rw [HXS.out] at HSL HSB HSS HAT
 rw [HXS.out]
 obtain ⟨n, HN⟩ : ∃ n, Hid (s.size = n) := ⟨_, hide rfl⟩
 have hsn : s.size ≤ n := by rw [HN.out]; exact Nat.le_refl _
 have hns : n ≤ s.size := by rw [HN.out]; exact Nat.le_refl _
 rw [HN.out] at HSL
 clear HXS
 go_enter Tryd.func84, Tryd.ntmps84
 go_wp2_with fail
 go_loopw [4, 5, 6, 7] (fun v4 v5 v6 v7 wr => ∃ (i g m : Nat) (out : List Int) (ks : List Nat), i ≤ n ∧ v7 = .int .i64 i ∧ v5 = .int .i64 g ∧ v6 = .int .i64 m ∧ m < 8 ∧ g < 2 ^ m ∧ vals (xs.take i) = some ks ∧ (∀ r, by32 0 0 (ks ++ r) = out ++ by32 g m r) ∧ out.length ≤ i ∧ RowB wr w.heap.size v4 out ∧ Below w.heap.size w wr) (fun _ _ _ v7 _ => n - (intOf v7).toNat)
 case atStart => exact ⟨0, 0, 0, [], [], by omega, rfl, rfl, rfl, by omega, by decide, rfl, fun r => rfl, by simp, RowB.nil_ _ _, Below.refl _ _⟩
 case round =>
  obtain ⟨i, g, m, out, ks, hi, rfl, rfl, rfl, hm, hg, hvals, hby, hol, ho, hbel⟩ := hrel
  have HO := hide ho
  have HB := hide hbel
  have HV := hide hvals
  have HBY := hide hby
  have hwz := hbel.size
  clear ho hbel hvals hby
  by_cases hit : i < n
  · have HA := hide (HAT.out i (by omega))
    obtain ⟨x, HX⟩ : ∃ x, Hid (xs.getD i 0 = x) := ⟨_, hide rfl⟩
    rw [HX.out] at HA
    have hil : i < s.size := by omega
    have i1 : (i : Int) < (s.size : Int) := by omega
    have i2 : (i : Int) < (n : Int) := by omega
    go_wp2_with fail
    obtain ⟨wo, rfl⟩ : ∃ wo : World, wo = wr := ⟨_, rfl⟩
    go_loopw [8] (fun v8 wq => ∃ k : Nat, k ≤ 32 ∧ v8 = .int .i64 k ∧ (∀ j, j < k → ¬ ltr j = x) ∧ Below wo.heap.size wo wq) (fun v8 _ => 32 - (intOf v8).toNat)
    case atStart => exact ⟨0, by omega, rfl, fun j hj => by omega, Below.refl _ _⟩
    case round =>
     obtain ⟨k, hk, rfl, hno, hbq⟩ := hrel
     have HNO := hide hno
     have HBQ := hide hbq
     have hzq := hbq.size
     clear hno hbq
     by_cases hk32 : k < 32
     · have hlet := fun w' => run_letter w' k hk32
       unfold lettersS at hlet
       have hat := HA.out
       obtain ⟨y, HY⟩ : ∃ y, Hid (ltr k = y) := ⟨_, hide rfl⟩
       rw [HY.out] at hlet
       have k1 : (k : Int) < 32 := by omega
       have hd : decide ((k : Int) < 32) = true := by simp; omega
       by_cases hyx : y = x
       · have hyb : (y != x) = false := by simp [hyx]
         go_wp2_with fail
         go_quiet (fail)
         clear hlet hat
         obtain ⟨wf, HWF⟩ : ∃ wf, Hid (wr.drewN nq = wf) := ⟨_, hide rfl⟩
         have HBF := hide (show Below wo.heap.size wo wf by rw [← HWF.out]; exact Go.below_drewN HBQ.out _)
         rw [HWF.out]
         have hzf := HBF.out.size
         have HOF := hide (HO.out.keptB HBF.out)
         have HBW := hide (HB.out.trans (HBF.out.mono hwz))
         have hvs := hide (vals_snoc (xs := xs) (i := i) (k := k) (by rw [HSL.out]; exact hit) HV.out (by rw [HY.out, hyx, HX.out]) hk32)
         have h128 : g < 128 := Nat.lt_of_lt_of_le hg (Nat.pow_le_pow_right (by decide) (show m ≤ 7 by omega))
         have hk32e : ((k : Int) == 32) = false := by simp; omega
         have w1 : IntKind.i64.wrap ((g : Int) * 32) = (g : Int) * 32 := IntWalk.i64_in _ (by omega)
         have w2 : bits .or .i64 ((g : Int) * 32) (k : Int) = ((g * 32 + k : Nat) : Int) := by have := or_low g k 5 (by omega) (by omega) (by omega); simpa using this
         have w3 : bits .or .i64 ((g : Int) * 32) (k : Int) = (g : Int) * 32 + (k : Int) := by rw [w2]; omega
         have HBL := hide (fun r (h : m + 5 < 8) => by32_low g m k r h)
         have HBH := hide (fun r (h : 8 ≤ m + 5) => by32_high g m k r h)
         have hG : g * 32 + k < 2 ^ (m + 5) := by
          have : 2 ^ (m + 5) = 2 ^ m * 32 := by rw [Nat.pow_add]
          omega
         clear w2 HA HWF HNO HBQ hd
         by_cases hm3 : m + 5 < 8
         · have HBY2 := hide (show ∀ r, by32 0 0 ((ks ++ [k]) ++ r) = out ++ by32 (g * 32 + k) (m + 5) r from fun r => by
            rw [List.append_assoc, HBY.out, List.singleton_append, HBL.out r hm3])
           have HAND := hide (and_low (g * 32 + k) (m + 5) (by omega) (by omega))
           rw [Nat.mod_eq_of_lt hG] at HAND
           obtain ⟨q2, eq2⟩ : ∃ q2 : Int, ((2 ^ (m + 5) - 1 : Nat) : Int) = q2 := ⟨_, rfl⟩
           rw [eq2] at HAND
           obtain ⟨G, HGG⟩ : ∃ G, Hid (g * 32 + k = G) := ⟨_, hide rfl⟩
           have w4 : (g : Int) * 32 + (k : Int) = (G : Int) := by rw [← HGG.out]; omega
           rw [w4] at w3
           rw [HGG.out] at HBY2 HAND hG
           clear w4 HBL HBH HGG HBY hg
           rcases show m = 0 ∨ m = 1 ∨ m = 2 by omega with rfl | rfl | rfl
           all_goals
            clear hm hm3
            simp at eq2
            subst eq2
            go_wp2_with fail
            go_roundw
            case measure => simp [intOf]; omega
            case rel => first
             | exact ⟨i + 1, G, 5, out, ks ++ [k], by omega, by go_num, congrArg _ HAND.out, by first | rfl | go_num, by omega, hG, hvs.out, HBY2.out, by omega, HOF.out, HBW.out⟩
             | exact ⟨i + 1, G, 6, out, ks ++ [k], by omega, by go_num, congrArg _ HAND.out, by first | rfl | go_num, by omega, hG, hvs.out, HBY2.out, by omega, HOF.out, HBW.out⟩
             | exact ⟨i + 1, G, 7, out, ks ++ [k], by omega, by go_num, congrArg _ HAND.out, by first | rfl | go_num, by omega, hG, hvs.out, HBY2.out, by omega, HOF.out, HBW.out⟩
         · have HBY2 := hide (show ∀ r, by32 0 0 ((ks ++ [k]) ++ r) = (out ++ [(((g * 32 + k) / 2 ^ (m - 3) % 256 : Nat) : Int)]) ++ by32 ((g * 32 + k) % 2 ^ (m - 3)) (m - 3) r from fun r => by
            rw [List.append_assoc, HBY.out, List.singleton_append, HBH.out r (by omega), List.append_assoc]; rfl)
           have HAND := hide (and_low (g * 32 + k) (m - 3) (by have : 2 ^ (m + 5) ≤ 2 ^ 12 := Nat.pow_le_pow_right (by decide) (by omega); omega) (by omega))
           have hlt : (g * 32 + k) % 2 ^ (m - 3) < 2 ^ (m - 3) := Nat.mod_lt _ (Nat.pow_pos (by decide))
           obtain ⟨q2, eq2⟩ : ∃ q2 : Int, ((2 ^ (m - 3) - 1 : Nat) : Int) = q2 := ⟨_, rfl⟩
           rw [eq2] at HAND
           have hG4 : g * 32 + k < 4096 := by omega
           obtain ⟨G, HGG⟩ : ∃ G, Hid (g * 32 + k = G) := ⟨_, hide rfl⟩
           have w4 : (g : Int) * 32 + (k : Int) = (G : Int) := by rw [← HGG.out]; omega
           rw [w4] at w3
           rw [HGG.out] at HBY2 HAND hlt hG hG4
           obtain ⟨G', HG'⟩ : ∃ G', Hid (G % 2 ^ (m - 3) = G') := ⟨_, hide rfl⟩
           rw [HG'.out] at HBY2 HAND hlt
           obtain ⟨z, HZ⟩ : ∃ z : Int, Hid (((G / 2 ^ (m - 3) % 256 : Nat) : Int) = z) := ⟨_, hide rfl⟩
           rw [HZ.out] at HBY2
           have HZB := hide (show Bytes [z] from fun x hx => by simp at hx; subst hx; rw [← HZ.out]; omega)
           clear w4 HBL HBH HGG HBY hg HG'
           rcases show m = 3 ∨ m = 4 ∨ m = 5 ∨ m = 6 ∨ m = 7 by omega with rfl | rfl | rfl | rfl | rfl
           all_goals
            clear hm hm3
            simp at eq2
            subst eq2
            go_wp2_with (first
             | (refine wpList_lit1v rfl _ rfl _ rfl z (by rw [← HZ.out]; first | omega | (simp <;> omega)) ?_; intro g3 w5 bk3 hg3 hb3; have HL3 := hide ((RowB.of_blk (base := 0) bk3 (by omega) HZB.out (by unfold maxLen; simp)).reads); have HO3 := hide (HOF.out.keptB hb3); have HB3 := hide (HBW.out.trans (hb3.mono (by omega))); have hz3 := hb3.size; clear bk3 hg3 hb3)
             | (at_builtin; go_must (refine wpList_append_B rfl _ _ rfl w.heap.size _ _ rfl HO3.out _ _ [z] rfl HL3.out HZB.out (by simp; omega) (by omega) ?_); intro v9 w6 ho9 hg9; have HB9 := hide (HB3.out.grown hg9 (by omega) (fun k hk => (HO3.out.base_ k hk).1)); have HO9 := hide ho9; clear ho9 hg9 HB3 HO3 HL3))
            go_roundw
            case measure => simp [intOf]; omega
            case rel => first
             | exact ⟨i + 1, G', 0, out ++ [z], ks ++ [k], by omega, by go_num, congrArg _ HAND.out, by first | rfl | go_num, by omega, hlt, hvs.out, HBY2.out, by simp; omega, HO9.out, HB9.out⟩
             | exact ⟨i + 1, G', 1, out ++ [z], ks ++ [k], by omega, by go_num, congrArg _ HAND.out, by first | rfl | go_num, by omega, hlt, hvs.out, HBY2.out, by simp; omega, HO9.out, HB9.out⟩
             | exact ⟨i + 1, G', 2, out ++ [z], ks ++ [k], by omega, by go_num, congrArg _ HAND.out, by first | rfl | go_num, by omega, hlt, hvs.out, HBY2.out, by simp; omega, HO9.out, HB9.out⟩
             | exact ⟨i + 1, G', 3, out ++ [z], ks ++ [k], by omega, by go_num, congrArg _ HAND.out, by first | rfl | go_num, by omega, hlt, hvs.out, HBY2.out, by simp; omega, HO9.out, HB9.out⟩
             | exact ⟨i + 1, G', 4, out ++ [z], ks ++ [k], by omega, by go_num, congrArg _ HAND.out, by first | rfl | go_num, by omega, hlt, hvs.out, HBY2.out, by simp; omega, HO9.out, HB9.out⟩
       · have hyb : (y != x) = true := by simp [hyx]
         go_wp2_with fail
         go_quiet (fail)
         clear hlet hat
         go_wp2_with fail
         go_roundw
         case measure => simp [intOf]; omega
         case rel => exact ⟨k + 1, by omega, by go_num, fun j hj => by rcases Nat.lt_or_ge j k with h | h; exact HNO.out j h; (have : j = k := by omega); rw [this, HY.out]; exact hyx, Go.below_drewN HBQ.out _⟩
     · have e32 : k = 32 := by omega
       subst e32
       have hbad := hide (show bytes32F xs = none by rw [bytes32F, vals_bad (by rw [HSL.out]; exact hit) (fun j hj => by rw [HX.out]; exact HNO.out j hj)]; rfl)
       have hd : decide (((32 : Nat) : Int) < 32) = false := by simp
       have HBW := hide (HB.out.trans (HBQ.out.mono hwz))
       go_wp2_with fail
       go_quiet (fail)
       go_wp2_with fail
       go_ret2
       exact .inr ⟨hbad.out, rfl, Go.below_drewN HBW.out _⟩
  · have e : i = n := by omega
    subst e
    have HVX := hide (show vals xs = some ks by have := HV.out; rwa [List.take_of_length_le (by rw [HSL.out]; exact Nat.le_refl _)] at this)
    have HBX := hide (show by32 0 0 ks = out by have := HBY.out []; rw [List.append_nil, by32, List.append_nil] at this; exact this)
    have hil : ¬ i < s.size := by omega
    have i1 : ¬ (i : Int) < (s.size : Int) := by omega
    have HOB := hide HO.out.bytes
    have HBS := hide (Base32_any _ out wr HO.out.reads HOB.out (by omega))
    have HQB := hide (b32F_bytes out)
    by_cases hEq : b32F out = xs
    · have HR := hide (show bytes32F xs = some out by rw [bytes32F, HVX.out, Option.bind_some, HBX.out, if_pos hEq])
      rw [hEq, HSS.out] at HBS
      clear HQB HVX HBX hEq HBY HV
      go_wp2_with fail
      refine HBS.out.mono ?_
      rintro e w5 ⟨rfl, hb5⟩
      have HO5 := hide (HO.out.keptB hb5)
      have HB5 := hide (HB.out.trans (hb5.mono hwz))
      clear hb5
      go_wp2_with fail
      go_ret2
      exact .inl ⟨_, out, HR.out, rfl, HO5.out, HB5.out⟩
    · have HR := hide (show bytes32F xs = none by rw [bytes32F, HVX.out, Option.bind_some, HBX.out, if_neg hEq])
      have hts : ¬ strOfNums (b32F out) = s := fun h => hEq (by rw [← HSS.out] at h; exact (strOf_inj HQB.out HSB.out).1 h)
      generalize strOfNums (b32F out) = t at HBS hts
      have hts2 : (t.toList == s.toList) = false := str_ne hts
      clear HQB HVX HBX hEq HBY HV
      go_wp2_with fail
      refine HBS.out.mono ?_
      rintro e w5 ⟨rfl, hb5⟩
      have HB5 := hide (HB.out.trans (hb5.mono hwz))
      clear hb5
      go_wp2_with fail
      go_ret2
      exact .inr ⟨HR.out, rfl, HB5.out⟩
end Go.Proofs.YthdjgebbjogmiaaDoor

namespace Go.Proofs.YthdjgebbjogmiaaDoor
open Go Go.RowKit
set_option maxRecDepth 100000

theorem drop_cut {xs : List Int} {f i : Nat} (hf : f ≤ i) (hi : i < xs.length) : xs.drop f = (xs.drop f).take (i - f) ++ xs.getD i 0 :: xs.drop (i + 1) := by
 conv => lhs; rw [← List.take_append_drop (i - f) (xs.drop f)]
 rw [List.drop_drop, show f + (i - f) = i by omega, List.drop_eq_getElem_cons hi, getD_el' xs i hi]
theorem split_at {xs : List Int} {f i : Nat} (hf : f ≤ i) (hi : i < xs.length) (hno : ∀ x ∈ (xs.drop f).take (i - f), x ≠ 58) (h : xs.getD i 0 = 58) :
 splitF (xs.drop f) = (xs.drop f).take (i - f) :: splitF (xs.drop (i + 1)) := by
 conv => lhs; rw [drop_cut hf hi, h]
 rw [splitF_cons hno]
theorem no_colon {xs : List Int} {f i : Nat} (hf : f ≤ i) (hi : i < xs.length) (hno : ∀ x ∈ (xs.drop f).take (i - f), x ≠ 58) (h : ¬ xs.getD i 0 = 58) :
 ∀ x ∈ (xs.drop f).take (i + 1 - f), x ≠ 58 := by
 rw [show i + 1 - f = (i - f) + 1 by omega, List.take_succ_eq_append_getElem (by rw [List.length_drop]; omega), List.getElem_drop]
 intro x hx
 rcases List.mem_append.1 hx with hx | hx
 · exact hno x hx
 · rw [List.mem_singleton] at hx
   subst hx
   rw [getD_el' xs i hi] at h
   simpa [show f + (i - f) = i by omega] using h
theorem split_end {xs : List Int} {f : Nat} (hno : ∀ x ∈ (xs.drop f).take (xs.length - f), x ≠ 58) : splitF (xs.drop f) = [xs.drop f] := by
 rw [List.take_of_length_le (by rw [List.length_drop]; exact Nat.le_refl _)] at hno
 exact splitF_none hno

/-- A row of strings of the call's own. -/
def strV (p : List Int) : Value := .string (strOfNums p)
def StrRow (w : World) (base : Nat) (v : Value) (ps : List (List Int)) : Prop := w.ownsRow base 9 1 v ps.length (ps.map strV)
theorem StrRow.nil_ (w : World) (base : Nat) : StrRow w base (.slice none 0 0) [] := World.ownsRow_nil _ _ _ _
theorem StrRow.keptB {w w' : World} {base : Nat} {v : Value} {ps : List (List Int)} (h : StrRow w base v ps) (hb : Below w.heap.size w w') : StrRow w' base v ps := own_keptB h hb
theorem StrRow.reads {w : World} {base : Nat} {v : Value} {ps : List (List Int)} (h : StrRow w base v ps) : Rd w w.heap.size 1 v ps.length (ps.map strV) := Rd.of_own h
theorem el_strs : ElemOf Tryd.prog 96 9 1 16 := elem_of Tryd.underlying96 (z := .string ByteArray.empty) (by kernel_rfl) rfl (by decide) (by decide)
/-- 'l = append(l, s)': the world behind the one-cell block of s. -/
theorem wpList_append_str {ops : Array Oper} {rest : List Oper} {o : Oper} {a : Act} {w : World} {Q : Exit → Act → World → Prop} (hgd : o.guard = none) (s x : Operand) (ho : o.op = .call { callee := .builtin .append, args := #[s, x], argTypes := #[96, 96] })
 (base : Nat) (v : Value) (ps : List (List Int)) (hs : a.eval s = v) (hown : StrRow w base v ps) (hB : base ≤ w.heap.size) (b : ByteArray) (r : List Int) (hb : b = strOfNums r)
 (hx : a.eval x = .slice (some ⟨w.heap.size, 0, none⟩) 1 1) (hn : ps.length ≤ 1000000)
 (h : ∀ v' w', StrRow w' base v' (ps ++ [r]) → Below base w w' → wpList Tryd.prog ops Q rest (a.put o.dst v') w') : wpList Tryd.prog ops Q (o :: rest) a (w.alloc (.cells #[.string b] 9)) := by
 subst hb
 have hba := (Below.refl w.heap.size w).alloc (Nat.le_refl _) (.cells #[.string (strOfNums r)] 9)
 have hown' := StrRow.keptB hown hba
 have hz := hba.size
 refine wpList_append_rd _ hgd s x _ ho base _ _ _ el_strs v ps.length _ hs hown' (w.heap.size + 1) _ 1 [.string (strOfNums r)] hx (Rd.one w 9 (.string (strOfNums r))) (fun z hz => by simp at hz; subst hz; rfl) (by omega) (by omega) ?_
 intro v' w' ho' hg _
 refine h v' w' ?_ ((hba.mono hB).grown hg (by omega) (own_base hown'))
 unfold StrRow
 rw [List.map_append, List.length_append]
 exact ho'
theorem extract_nums (s : ByteArray) (f i : Nat) : s.extract f i = strOfNums (((strB s).drop f).take (i - f)) := by
 obtain ⟨⟨l⟩⟩ := s
 rw [ByteArray.extract_mk]
 have h : ((strB ⟨⟨l⟩⟩).drop f).take (i - f) = strB ⟨((l.drop f).take (i - f)).toArray⟩ := by
  simp [strB, List.map_drop, List.map_take]
 rw [h, strOf_strB]

set_option maxHeartbeats 4000000 in
theorem split_any (s : ByteArray) (w : World) (hn : s.size ≤ 1000000) :
 Calls Tryd.prog 83 #[.string s] w fun e w' => ∃ v, e = .returned v ∧ StrRow w' w.heap.size v (splitF (strB s)) ∧ Below w.heap.size w w' := by
 have HSL := hide (strB_len s)
 have HAT := hide (fun (i : Nat) (h : i < s.size) => (show ∀ w : World, (Instr.index 9 (.string s) (.int .i64 (i : Int))).run Tryd.prog w = .ok (.int .u8 ((strB s).getD i 0)) w from fun w => by
  rw [run_index_string w 9 s .i64 (i : Int) Tryd.underlying9, dif_pos ⟨by omega, by omega⟩]
  simp only [Int.toNat_natCast]
  rw [strB, List.getD_eq_getElem?_getD, List.getElem?_map, List.getElem?_eq_getElem (by rw [Array.length_toList]; exact h)]
  rfl))
 have HEX := hide (extract_nums s)
 obtain ⟨xs, HXS⟩ : ∃ x, Hid (strB s = x) := ⟨_, hide rfl⟩
 rw [HXS.out] at HSL HAT HEX
 rw [HXS.out]
 obtain ⟨n, HN⟩ : ∃ n, Hid (s.size = n) := ⟨_, hide rfl⟩
 have hsn : s.size ≤ n := by rw [HN.out]; exact Nat.le_refl _
 have hns : n ≤ s.size := by rw [HN.out]; exact Nat.le_refl _
 rw [HN.out] at HSL
 clear HXS
 go_enter Tryd.func83, Tryd.ntmps83
 go_wp2_with fail
 go_loopw [3, 4, 5] (fun v3 v4 v5 wr => ∃ (i f : Nat) (out : List (List Int)), i ≤ n ∧ f ≤ i ∧ v5 = .int .i64 i ∧ v4 = .int .i64 f ∧ out.length ≤ f ∧ StrRow wr w.heap.size v3 out ∧ splitF xs = out ++ splitF (xs.drop f) ∧ (∀ x ∈ (xs.drop f).take (i - f), x ≠ 58) ∧ Below w.heap.size w wr) (fun _ _ v5 _ => n - (intOf v5).toNat)
 case atStart => exact ⟨0, 0, [], by omega, by omega, rfl, rfl, by simp, StrRow.nil_ _ _, by simp, by simp, Below.refl _ _⟩
 case round =>
  obtain ⟨i, f, out, hi, hf, rfl, rfl, hol, ho, hsp, hno, hbel⟩ := hrel
  have HO := hide ho
  have HSP := hide hsp
  have HNO := hide hno
  have HB := hide hbel
  have hwz := hbel.size
  clear ho hsp hno hbel
  by_cases hit : i < n
  · have hat := HAT.out i (by omega)
    obtain ⟨x, HX⟩ : ∃ x, Hid (xs.getD i 0 = x) := ⟨_, hide rfl⟩
    rw [HX.out] at hat
    have i1 : (i : Int) < (s.size : Int) := by omega
    have i2 : (i : Int) ≤ (s.size : Int) := by omega
    have i3 : (f : Int) ≤ (i : Int) := by omega
    have i4 : (f : Int) ≤ (s.size : Int) := by omega
    by_cases hx : x = 58
    · have hxb : (x == 58) = true := by simp [hx]
      have HS2 := hide (split_at hf (by rw [HSL.out]; exact hit) HNO.out (by rw [HX.out, hx]))
      subst hx
      go_wp2_with (first
       | (at_builtin; go_must (refine wpList_append_str rfl _ _ rfl w.heap.size _ out rfl HO.out (by omega) _ _ (HEX.out f i) rfl (by omega) ?_); intro v9 w9 ho9 hb9; have HO9 := hide ho9; have HB9 := hide (HB.out.trans hb9); clear ho9 hb9))
      go_roundw
      case measure => simp [intOf]; omega
      case rel => exact ⟨i + 1, i + 1, out ++ [(xs.drop f).take (i - f)], by omega, by omega, by go_num, by go_num, by simp; omega, HO9.out, by rw [HSP.out, HS2.out]; simp, by simp, HB9.out⟩
    · have hxb : (x == 58) = false := by simp [hx]
      have HN2 := hide (no_colon hf (by rw [HSL.out]; exact hit) HNO.out (by rw [HX.out]; exact hx))
      go_wp2_with fail
      go_roundw
      case measure => simp [intOf]; omega
      case rel => exact ⟨i + 1, f, out, by omega, by omega, by go_num, rfl, by omega, HO.out, HSP.out, HN2.out, HB.out⟩
  · have e : i = n := by omega
    subst e
    have i1 : ¬ (i : Int) < (s.size : Int) := by omega
    have i4 : (f : Int) ≤ (s.size : Int) := by omega
    have HE := hide (show splitF xs = out ++ [xs.drop f] by rw [HSP.out, split_end (by rw [HSL.out]; exact HNO.out)])
    have HXE := hide (show s.extract f s.size = strOfNums (xs.drop f) by rw [HEX.out, List.take_of_length_le (by rw [List.length_drop, HSL.out]; omega)])
    go_wp2_with (first
     | (at_builtin; go_must (refine wpList_append_str rfl _ _ rfl w.heap.size _ out rfl HO.out (by omega) _ _ HXE.out rfl (by omega) ?_); intro v9 w9 ho9 hb9; have HO9 := hide ho9; have HB9 := hide (HB.out.trans hb9); clear ho9 hb9))
    go_ret
    exact ⟨_, rfl, by rw [HE.out]; exact HO9.out, HB9.out⟩
end Go.Proofs.YthdjgebbjogmiaaDoor

namespace Go.Proofs.YthdjgebbjogmiaaDoor
open Go Go.RowKit
set_option maxRecDepth 100000

theorem splitF_len : ∀ (s : List Int), ∀ p ∈ splitF s, p.length ≤ s.length
 | [], p, hp => by simp [splitF] at hp; subst hp; simp
 | c :: cs, p, hp => by
  have ih := splitF_len cs
  rw [splitF] at hp
  split at hp
  · rcases List.mem_cons.1 hp with rfl | hp
    · simp
    · have := ih p hp; simp; omega
  · split at hp
    · rw [List.mem_singleton] at hp; subst hp; simp
    · next q qs he =>
      rcases List.mem_cons.1 hp with rfl | hp
      · have := ih q (by rw [he]; simp); simp; omega
      · have := ih p (by rw [he]; simp [hp]); simp; omega
theorem splitF_bytes : ∀ (s : List Int), Bytes s → ∀ p ∈ splitF s, Bytes p
 | [], _, p, hp => by simp [splitF] at hp; subst hp; intro x hx; cases hx
 | c :: cs, hb, p, hp => by
  have hc : 0 ≤ c ∧ c < 256 := hb c (by simp)
  have ih := splitF_bytes cs (fun x hx => hb x (by simp [hx]))
  rw [splitF] at hp
  split at hp
  · rcases List.mem_cons.1 hp with rfl | hp
    · intro x hx; cases hx
    · exact ih p hp
  · split at hp
    · rw [List.mem_singleton] at hp; subst hp; intro x hx; rw [List.mem_singleton] at hx; subst hx; exact hc
    · next q qs he =>
      rcases List.mem_cons.1 hp with rfl | hp
      · intro x hx
        rcases List.mem_cons.1 hx with rfl | hx
        · exact hc
        · exact ih q (by rw [he]; simp) x hx
      · exact ih p (by rw [he]; simp [hp])
theorem splitF_count : ∀ (s : List Int), 0 < (splitF s).length ∧ (splitF s).length ≤ s.length + 1
 | [] => by simp [splitF]
 | c :: cs => by
  have ih := splitF_count cs
  rw [splitF]
  split
  · simp; omega
  · split
    · simp
    · next q qs he => rw [he] at ih; simp at ih ⊢; omega
theorem part_len (s : List Int) (k : Nat) : ((splitF s).getD k []).length ≤ s.length := by
 rcases Nat.lt_or_ge k (splitF s).length with h | h
 · rw [List.getD_eq_getElem?_getD, List.getElem?_eq_getElem h]; exact splitF_len s _ (List.getElem_mem h)
 · rw [List.getD_eq_getElem?_getD, List.getElem?_eq_none h]; simp
theorem part_bytes {s : List Int} (hb : Bytes s) (k : Nat) : Bytes ((splitF s).getD k []) := by
 rcases Nat.lt_or_ge k (splitF s).length with h | h
 · rw [List.getD_eq_getElem?_getD, List.getElem?_eq_getElem h]; exact splitF_bytes s hb _ (List.getElem_mem h)
 · rw [List.getD_eq_getElem?_getD, List.getElem?_eq_none h]; intro x hx; cases hx
theorem by32_len : ∀ (ks : List Nat) (g m : Nat), (by32 g m ks).length ≤ ks.length
 | [], g, m => by rw [by32]; simp
 | k :: ks, g, m => by
  rcases Nat.lt_or_ge (m + 5) 8 with h | h
  · rw [by32_low g m k ks h]; have := by32_len ks (g * 32 + k) (m + 5); simp; omega
  · rw [by32_high g m k ks h]; have := by32_len ks ((g * 32 + k) % 2 ^ (m - 3)) (m - 3); simp; omega
theorem vals_len : ∀ (s : List Int) (ks : List Nat), vals s = some ks → ks.length = s.length
 | [], ks, h => by rw [vals] at h; cases h; rfl
 | c :: s, ks, h => by
  rw [vals] at h
  obtain ⟨k, hk, h⟩ := Option.bind_eq_some_iff.1 h
  obtain ⟨js, hj, rfl⟩ := Option.map_eq_some_iff.1 h
  have := vals_len s js hj
  simp [this]
theorem bytes32_len {s b : List Int} (h : bytes32F s = some b) : b.length ≤ s.length := by
 unfold bytes32F at h
 obtain ⟨ks, hk, h⟩ := Option.bind_eq_some_iff.1 h
 split at h
 · cases h; have := by32_len ks 0 0; have := vals_len s ks hk; omega
 · cases h

/-- Which kind has this word, of the first k ones? -/
def kindN (p : List Int) : Nat → Int
 | 0 => 0
 | k + 1 => if 0 < k ∧ wordL k = p then (k : Int) else kindN p k
theorem kindN_all (p : List Int) : kindN p 10 = kindF p := by
 by_cases h1 : p = wordL 1
 · subst h1; decide
 by_cases h2 : p = wordL 2
 · subst h2; decide
 by_cases h3 : p = wordL 3
 · subst h3; decide
 by_cases h4 : p = wordL 4
 · subst h4; decide
 by_cases h5 : p = wordL 5
 · subst h5; decide
 by_cases h6 : p = wordL 6
 · subst h6; decide
 by_cases h7 : p = wordL 7
 · subst h7; decide
 by_cases h8 : p = wordL 8
 · subst h8; decide
 by_cases h9 : p = wordL 9
 · subst h9; decide
 have e : ∀ k, wordL k = p ↔ p = wordL k := fun k => eq_comm
 simp only [kindN, kindF, e, h1, h2, h3, h4, h5, h6, h7, h8, h9, and_false, if_false]
 simp
section
variable {s : List Int} {L : List (List Int)} (hL : splitF s = L)
include hL
theorem cand_short (h : L.length < 3) : candP s = none := by
 subst hL; unfold candP; simp only; rw [if_pos h]
theorem cand_no2 (h : 3 ≤ L.length) (hb : bytes32F (L.getD 2 []) = none) : candP s = none := by
 subst hL; unfold candP; simp only; rw [if_neg (by omega), hb]; rfl
theorem cand_lit {a : List Int} (h : 3 ≤ L.length) (hb : bytes32F (L.getD 2 []) = some a) (hk : kindF (L.getD 1 []) = 3) : candP s = some ⟨3, zeros 16, zeros 32, 0, 0, 0, a⟩ := by
 subst hL; unfold candP; simp only; rw [if_neg (by omega), hb, Option.bind_some, if_pos hk]
theorem cand_bare {a : List Int} (h : 3 ≤ L.length) (hb : bytes32F (L.getD 2 []) = some a) (hk : ¬ kindF (L.getD 1 []) = 3) (h4 : ¬ 3 < L.length) : candP s = some ⟨kindF (L.getD 1 []), zeros 16, zeros 32, 0, 0, 0, []⟩ := by
 subst hL; unfold candP; simp only; rw [if_neg (by omega), hb, Option.bind_some, if_neg hk, if_neg (by omega)]
theorem cand_no3 {a : List Int} (h : 3 < L.length) (hb : bytes32F (L.getD 2 []) = some a) (hk : ¬ kindF (L.getD 1 []) = 3) (h4 : bytes32F (L.getD 3 []) = none) : candP s = none := by
 subst hL; unfold candP; simp only; rw [if_neg (by omega), hb, Option.bind_some, if_neg hk, if_pos (by omega), h4]; rfl
theorem cand_len {a b : List Int} (h : 3 < L.length) (hb : bytes32F (L.getD 2 []) = some a) (hk : ¬ kindF (L.getD 1 []) = 3) (h4 : bytes32F (L.getD 3 []) = some b) (h5 : ¬ (a.length = 16 ∧ b.length = 32)) : candP s = none := by
 subst hL; unfold candP; simp only; rw [if_neg (by omega), hb, Option.bind_some, if_neg hk, if_pos (by omega), h4, Option.bind_some, if_neg h5]
theorem cand_slot {a b : List Int} (h : 3 < L.length) (hb : bytes32F (L.getD 2 []) = some a) (hk : ¬ kindF (L.getD 1 []) = 3) (h4 : bytes32F (L.getD 3 []) = some b) (h5 : a.length = 16 ∧ b.length = 32) (h7 : ¬ L.length = 7) :
 candP s = some ⟨kindF (L.getD 1 []), a, b, 0, 0, 0, []⟩ := by
 subst hL; unfold candP; simp only; rw [if_neg (by omega), hb, Option.bind_some, if_neg hk, if_pos (by omega), h4, Option.bind_some, if_pos h5, if_neg h7]
theorem cand_file {a b : List Int} (hb : bytes32F (L.getD 2 []) = some a) (hk : ¬ kindF (L.getD 1 []) = 3) (h4 : bytes32F (L.getD 3 []) = some b) (h5 : a.length = 16 ∧ b.length = 32) (h7 : L.length = 7) :
 candP s = some ⟨kindF (L.getD 1 []), a, b, numP (L.getD 4 []), numP (L.getD 5 []), numP (L.getD 6 []), []⟩ := by
 subst hL; unfold candP; simp only; rw [if_neg (by omega), hb, Option.bind_some, if_neg hk, if_pos (by omega), h4, Option.bind_some, if_pos h5, if_pos h7]
end
theorem parse_none {s : List Int} (h : candP s = none) : parseF s = none := by unfold parseF pick; rw [h]; rfl
theorem parse_some {s : List Int} {c : CapD} (h : candP s = some c) (hv : c.Valid) (hp : printF c = s) : parseF s = some c := by unfold parseF pick; rw [h, Option.bind_some, if_pos ⟨hv, hp⟩]
theorem parse_not {s : List Int} {c : CapD} (h : candP s = some c) (hn : ¬ (c.Valid ∧ printF c = s)) : parseF s = none := by unfold parseF pick; rw [h, Option.bind_some, if_neg hn]
theorem wordS_eq {p : List Int} (hb : Bytes p) {k : Nat} (hk : k < 10) : strOfNums (wordL k) = strOfNums p ↔ wordL k = p := strOf_inj (fun x hx => (wordL_ok ⟨k, hk⟩ x hx).2) hb
end Go.Proofs.YthdjgebbjogmiaaDoor
