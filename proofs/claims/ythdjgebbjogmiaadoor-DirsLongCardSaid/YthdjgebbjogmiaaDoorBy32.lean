/- code.Bytes32: the bytes of letters, or that there are none. Condition: at most 2^40 letters. -/
import Derived.Test.YthdjgebbjogmiaaDoorB32
import Derived.BigQuiet
namespace Go.Proofs.YthdjgebbjogmiaaDoor
open Go Go.RowKit

theorem str_ne {a b : ByteArray} (h : ¬ a = b) : (a.toList == b.toList) = false := by
 rw [beq_eq_false_iff_ne, ByteArray.toList_eq, ByteArray.toList_eq]
 exact fun e => h (Go.WideShapes.bytes_inj e)
theorem vals_app : ∀ (a b : List Int), vals (a ++ b) = (vals a).bind fun x => (vals b).map (x ++ ·)
 | [], b => by
  rw [List.nil_append]
  show _ = (vals b).map ([] ++ ·)
  cases vals b <;> rfl
 | c :: a, b => by
  rw [List.cons_append, vals, vals_app a b, vals]
  cases valOf c with
  | none => rfl
  | some k =>
   simp only [Option.bind_some]
   cases vals a with
   | none => rfl
   | some x =>
    simp only [Option.bind_some, Option.map_some]
    cases vals b <;> rfl
theorem vals_snoc {xs : List Int} {i k : Nat} {ks : List Nat} (h : i < xs.length) (h1 : vals (xs.take i) = some ks) (h2 : ltr k = xs.getD i 0) (hk : k < 32) : vals (xs.take (i + 1)) = some (ks ++ [k]) := by
 rw [List.take_succ_eq_append_getElem h, vals_app, h1, ← getD_el' xs i h, ← h2]
 simp [vals, valOf_ltr hk]
theorem vals_bad {xs : List Int} {i : Nat} (h : i < xs.length) (h2 : ∀ j, j < 32 → ¬ ltr j = xs.getD i 0) : vals xs = none := by
 have hv : valOf xs[i] = none := by
  cases e : valOf xs[i] with
  | none => rfl
  | some k =>
   obtain ⟨hk, hl⟩ := valOf_some e
   exact absurd (by rw [hl, getD_el' xs i h]) (h2 k hk)
 conv => lhs; rw [← List.take_append_drop i xs, List.drop_eq_getElem_cons h]
 rw [vals_app, vals, hv]
 cases vals (xs.take i) <;> rfl
theorem by32_low (g m k : Nat) (ks : List Nat) (h : m + 5 < 8) : by32 g m (k :: ks) = by32 (g * 32 + k) (m + 5) ks := by rw [by32, if_neg (by omega)]
theorem by32_high (g m k : Nat) (ks : List Nat) (h : 8 ≤ m + 5) : by32 g m (k :: ks) = (((g * 32 + k) / 2 ^ (m - 3) % 256 : Nat) : Int) :: by32 ((g * 32 + k) % 2 ^ (m - 3)) (m - 3) ks := by rw [by32, if_pos h]

/-- What Bytes32 answers. -/
def By32Post (w : World) (xs : List Int) (e : Ending) (w' : World) : Prop :=
 (∃ v b, bytes32F xs = some b ∧ e = .returned (.tuple #[v, .bool true]) ∧ RowB w' w.heap.size v b ∧ Below w.heap.size w w') ∨
 (bytes32F xs = none ∧ e = .returned (.tuple #[.slice none 0 0, .bool false]) ∧ Below w.heap.size w w')

set_option maxHeartbeats 4000000 in
theorem Bytes32_any (s : ByteArray) (w : World) (hn : s.size ≤ 1099511627776) :
 Calls Tryd.prog 84 #[.string s] w (By32Post w (strB s)) := by
 have HSL := hide (strB_len s)
 have HSB := hide (strB_bytes s)
 have HSS := hide (strOf_strB s)
 have HAT := hide (fun (i : Nat) (h : i < s.size) => (show ∀ w : World, (Instr.index 9 (.string s) (.int .i64 (i : Int))).run Tryd.prog w = .ok (.int .u8 ((strB s).getD i 0)) w from fun w => by
  rw [run_index_string w 9 s .i64 (i : Int) Tryd.underlying9, dif_pos ⟨by omega, by omega⟩]
  simp only [Int.toNat_natCast]
  rw [strB, List.getD_eq_getElem?_getD, List.getElem?_map, List.getElem?_eq_getElem (by rw [Array.length_toList]; exact h)]
  rfl))
 obtain ⟨xs, HXS⟩ : ∃ x, Hid (strB s = x) := ⟨_, hide rfl⟩
 rw [HXS.out] at HSL HSB HSS HAT
 rw [HXS.out]
 obtain ⟨n, HN⟩ : ∃ n, Hid (s.size = n) := ⟨_, hide rfl⟩
 have hsn : s.size ≤ n := by rw [HN.out]; exact Nat.le_refl _
 have hns : n ≤ s.size := by rw [HN.out]; exact Nat.le_refl _
 rw [HN.out] at HSL
 clear HXS
 go_enter Tryd.func84, Tryd.ntmps84
 go_wp2_with fail
 go_loopw [4, 5, 6, 7] (fun v4 v5 v6 v7 wr => ∃ (i g m : Nat) (out : List Int) (ks : List Nat), i ≤ n ∧ v7 = .int .i64 i ∧ v5 = .int .i64 g ∧ v6 = .int .i64 m ∧ m < 8 ∧ g < 2 ^ m ∧ vals (xs.take i) = some ks ∧ (∀ r, by32 0 0 (ks ++ r) = out ++ by32 g m r) ∧ out.length ≤ i ∧ RowB wr w.heap.size v4 out ∧ Below w.heap.size w wr) (fun _ _ _ v7 _ => n - (intOf v7).toNat)
 case atStart => exact ⟨0, 0, 0, [], [], by omega, rfl, rfl, rfl, by omega, by decide, rfl, fun r => rfl, by simp, RowB.nil_ _ _, Below.refl _ _⟩
 case round =>
  obtain ⟨i, g, m, out, ks, hi, rfl, rfl, rfl, hm, hg, hvals, hby, hol, ho, hbel⟩ := hrel
  have HO := hide ho
  have HB := hide hbel
  have HV := hide hvals
  have HBY := hide hby
  have hwz := hbel.size
  clear ho hbel hvals hby
  by_cases hit : i < n
  · have HA := hide (HAT.out i (by omega))
    obtain ⟨x, HX⟩ : ∃ x, Hid (xs.getD i 0 = x) := ⟨_, hide rfl⟩
    rw [HX.out] at HA
    have hil : i < s.size := by omega
    have i1 : (i : Int) < (s.size : Int) := by omega
    have i2 : (i : Int) < (n : Int) := by omega
    go_wp2_with fail
    obtain ⟨wo, rfl⟩ : ∃ wo : World, wo = wr := ⟨_, rfl⟩
    go_loopw [8] (fun v8 wq => ∃ k : Nat, k ≤ 32 ∧ v8 = .int .i64 k ∧ (∀ j, j < k → ¬ ltr j = x) ∧ Below wo.heap.size wo wq) (fun v8 _ => 32 - (intOf v8).toNat)
    case atStart => exact ⟨0, by omega, rfl, fun j hj => by omega, Below.refl _ _⟩
    case round =>
     obtain ⟨k, hk, rfl, hno, hbq⟩ := hrel
     have HNO := hide hno
     have HBQ := hide hbq
     have hzq := hbq.size
     clear hno hbq
     by_cases hk32 : k < 32
     · have hlet := fun w' => run_letter w' k hk32
       unfold lettersS at hlet
       have hat := HA.out
       obtain ⟨y, HY⟩ : ∃ y, Hid (ltr k = y) := ⟨_, hide rfl⟩
       rw [HY.out] at hlet
       have k1 : (k : Int) < 32 := by omega
       have hd : decide ((k : Int) < 32) = true := by simp; omega
       by_cases hyx : y = x
       · have hyb : (y != x) = false := by simp [hyx]
         go_wp2_with fail
         go_quiet (fail)
         clear hlet hat
         obtain ⟨wf, HWF⟩ : ∃ wf, Hid (wr.drewN nq = wf) := ⟨_, hide rfl⟩
         have HBF := hide (show Below wo.heap.size wo wf by rw [← HWF.out]; exact Go.below_drewN HBQ.out _)
         rw [HWF.out]
         have hzf := HBF.out.size
         have HOF := hide (HO.out.keptB HBF.out)
         have HBW := hide (HB.out.trans (HBF.out.mono hwz))
         have hvs := hide (vals_snoc (xs := xs) (i := i) (k := k) (by rw [HSL.out]; exact hit) HV.out (by rw [HY.out, hyx, HX.out]) hk32)
         have h128 : g < 128 := Nat.lt_of_lt_of_le hg (Nat.pow_le_pow_right (by decide) (show m ≤ 7 by omega))
         have hk32e : ((k : Int) == 32) = false := by simp; omega
         have w1 : IntKind.i64.wrap ((g : Int) * 32) = (g : Int) * 32 := IntWalk.i64_in _ (by omega)
         have w2 : bits .or .i64 ((g : Int) * 32) (k : Int) = ((g * 32 + k : Nat) : Int) := by have := or_low g k 5 (by omega) (by omega) (by omega); simpa using this
         have w3 : bits .or .i64 ((g : Int) * 32) (k : Int) = (g : Int) * 32 + (k : Int) := by rw [w2]; omega
         have HBL := hide (fun r (h : m + 5 < 8) => by32_low g m k r h)
         have HBH := hide (fun r (h : 8 ≤ m + 5) => by32_high g m k r h)
         have hG : g * 32 + k < 2 ^ (m + 5) := by
          have : 2 ^ (m + 5) = 2 ^ m * 32 := by rw [Nat.pow_add]
          omega
         clear w2 HA HWF HNO HBQ hd
         by_cases hm3 : m + 5 < 8
         · have HBY2 := hide (show ∀ r, by32 0 0 ((ks ++ [k]) ++ r) = out ++ by32 (g * 32 + k) (m + 5) r from fun r => by
            rw [List.append_assoc, HBY.out, List.singleton_append, HBL.out r hm3])
           have HAND := hide (and_low (g * 32 + k) (m + 5) (by omega) (by omega))
           rw [Nat.mod_eq_of_lt hG] at HAND
           obtain ⟨q2, eq2⟩ : ∃ q2 : Int, ((2 ^ (m + 5) - 1 : Nat) : Int) = q2 := ⟨_, rfl⟩
           rw [eq2] at HAND
           obtain ⟨G, HGG⟩ : ∃ G, Hid (g * 32 + k = G) := ⟨_, hide rfl⟩
           have w4 : (g : Int) * 32 + (k : Int) = (G : Int) := by rw [← HGG.out]; omega
           rw [w4] at w3
           rw [HGG.out] at HBY2 HAND hG
           clear w4 HBL HBH HGG HBY hg
           rcases show m = 0 ∨ m = 1 ∨ m = 2 by omega with rfl | rfl | rfl
           all_goals
            clear hm hm3
            simp at eq2
            subst eq2
            go_wp2_with fail
            go_roundw
            case measure => simp [intOf]; omega
            case rel => first
             | exact ⟨i + 1, G, 5, out, ks ++ [k], by omega, by go_num, congrArg _ HAND.out, by first | rfl | go_num, by omega, hG, hvs.out, HBY2.out, by omega, HOF.out, HBW.out⟩
             | exact ⟨i + 1, G, 6, out, ks ++ [k], by omega, by go_num, congrArg _ HAND.out, by first | rfl | go_num, by omega, hG, hvs.out, HBY2.out, by omega, HOF.out, HBW.out⟩
             | exact ⟨i + 1, G, 7, out, ks ++ [k], by omega, by go_num, congrArg _ HAND.out, by first | rfl | go_num, by omega, hG, hvs.out, HBY2.out, by omega, HOF.out, HBW.out⟩
         · have HBY2 := hide (show ∀ r, by32 0 0 ((ks ++ [k]) ++ r) = (out ++ [(((g * 32 + k) / 2 ^ (m - 3) % 256 : Nat) : Int)]) ++ by32 ((g * 32 + k) % 2 ^ (m - 3)) (m - 3) r from fun r => by
            rw [List.append_assoc, HBY.out, List.singleton_append, HBH.out r (by omega), List.append_assoc]; rfl)
           have HAND := hide (and_low (g * 32 + k) (m - 3) (by have : 2 ^ (m + 5) ≤ 2 ^ 12 := Nat.pow_le_pow_right (by decide) (by omega); omega) (by omega))
           have hlt : (g * 32 + k) % 2 ^ (m - 3) < 2 ^ (m - 3) := Nat.mod_lt _ (Nat.pow_pos (by decide))
           obtain ⟨q2, eq2⟩ : ∃ q2 : Int, ((2 ^ (m - 3) - 1 : Nat) : Int) = q2 := ⟨_, rfl⟩
           rw [eq2] at HAND
           have hG4 : g * 32 + k < 4096 := by omega
           obtain ⟨G, HGG⟩ : ∃ G, Hid (g * 32 + k = G) := ⟨_, hide rfl⟩
           have w4 : (g : Int) * 32 + (k : Int) = (G : Int) := by rw [← HGG.out]; omega
           rw [w4] at w3
           rw [HGG.out] at HBY2 HAND hlt hG hG4
           obtain ⟨G', HG'⟩ : ∃ G', Hid (G % 2 ^ (m - 3) = G') := ⟨_, hide rfl⟩
           rw [HG'.out] at HBY2 HAND hlt
           obtain ⟨z, HZ⟩ : ∃ z : Int, Hid (((G / 2 ^ (m - 3) % 256 : Nat) : Int) = z) := ⟨_, hide rfl⟩
           rw [HZ.out] at HBY2
           have HZB := hide (show Bytes [z] from fun x hx => by simp at hx; subst hx; rw [← HZ.out]; omega)
           clear w4 HBL HBH HGG HBY hg HG'
           rcases show m = 3 ∨ m = 4 ∨ m = 5 ∨ m = 6 ∨ m = 7 by omega with rfl | rfl | rfl | rfl | rfl
           all_goals
            clear hm hm3
            simp at eq2
            subst eq2
            go_wp2_with (first
             | (refine wpList_lit1v rfl _ rfl _ rfl z (by rw [← HZ.out]; first | omega | (simp <;> omega)) ?_; intro g3 w5 bk3 hg3 hb3; have HL3 := hide ((RowB.of_blk (base := 0) bk3 (by omega) HZB.out (by unfold maxLen; simp)).reads); have HO3 := hide (HOF.out.keptB hb3); have HB3 := hide (HBW.out.trans (hb3.mono (by omega))); have hz3 := hb3.size; clear bk3 hg3 hb3)
             | (at_builtin; go_must (refine wpList_append_B rfl _ _ rfl w.heap.size _ _ rfl HO3.out _ _ [z] rfl HL3.out HZB.out (by simp; omega) (by omega) ?_); intro v9 w6 ho9 hg9; have HB9 := hide (HB3.out.grown hg9 (by omega) (fun k hk => (HO3.out.base_ k hk).1)); have HO9 := hide ho9; clear ho9 hg9 HB3 HO3 HL3))
            go_roundw
            case measure => simp [intOf]; omega
            case rel => first
             | exact ⟨i + 1, G', 0, out ++ [z], ks ++ [k], by omega, by go_num, congrArg _ HAND.out, by first | rfl | go_num, by omega, hlt, hvs.out, HBY2.out, by simp; omega, HO9.out, HB9.out⟩
             | exact ⟨i + 1, G', 1, out ++ [z], ks ++ [k], by omega, by go_num, congrArg _ HAND.out, by first | rfl | go_num, by omega, hlt, hvs.out, HBY2.out, by simp; omega, HO9.out, HB9.out⟩
             | exact ⟨i + 1, G', 2, out ++ [z], ks ++ [k], by omega, by go_num, congrArg _ HAND.out, by first | rfl | go_num, by omega, hlt, hvs.out, HBY2.out, by simp; omega, HO9.out, HB9.out⟩
             | exact ⟨i + 1, G', 3, out ++ [z], ks ++ [k], by omega, by go_num, congrArg _ HAND.out, by first | rfl | go_num, by omega, hlt, hvs.out, HBY2.out, by simp; omega, HO9.out, HB9.out⟩
             | exact ⟨i + 1, G', 4, out ++ [z], ks ++ [k], by omega, by go_num, congrArg _ HAND.out, by first | rfl | go_num, by omega, hlt, hvs.out, HBY2.out, by simp; omega, HO9.out, HB9.out⟩
       · have hyb : (y != x) = true := by simp [hyx]
         go_wp2_with fail
         go_quiet (fail)
         clear hlet hat
         go_wp2_with fail
         go_roundw
         case measure => simp [intOf]; omega
         case rel => exact ⟨k + 1, by omega, by go_num, fun j hj => by rcases Nat.lt_or_ge j k with h | h; exact HNO.out j h; (have : j = k := by omega); rw [this, HY.out]; exact hyx, Go.below_drewN HBQ.out _⟩
     · have e32 : k = 32 := by omega
       subst e32
       have hbad := hide (show bytes32F xs = none by rw [bytes32F, vals_bad (by rw [HSL.out]; exact hit) (fun j hj => by rw [HX.out]; exact HNO.out j hj)]; rfl)
       have hd : decide (((32 : Nat) : Int) < 32) = false := by simp
       have HBW := hide (HB.out.trans (HBQ.out.mono hwz))
       go_wp2_with fail
       go_quiet (fail)
       go_wp2_with fail
       go_ret2
       exact .inr ⟨hbad.out, rfl, Go.below_drewN HBW.out _⟩
  · have e : i = n := by omega
    subst e
    have HVX := hide (show vals xs = some ks by have := HV.out; rwa [List.take_of_length_le (by rw [HSL.out]; exact Nat.le_refl _)] at this)
    have HBX := hide (show by32 0 0 ks = out by have := HBY.out []; rw [List.append_nil, by32, List.append_nil] at this; exact this)
    have hil : ¬ i < s.size := by omega
    have i1 : ¬ (i : Int) < (s.size : Int) := by omega
    have HOB := hide HO.out.bytes
    have HBS := hide (Base32_any _ out wr HO.out.reads HOB.out (by omega))
    have HQB := hide (b32F_bytes out)
    by_cases hEq : b32F out = xs
    · have HR := hide (show bytes32F xs = some out by rw [bytes32F, HVX.out, Option.bind_some, HBX.out, if_pos hEq])
      rw [hEq, HSS.out] at HBS
      clear HQB HVX HBX hEq HBY HV
      go_wp2_with fail
      refine HBS.out.mono ?_
      rintro e w5 ⟨rfl, hb5⟩
      have HO5 := hide (HO.out.keptB hb5)
      have HB5 := hide (HB.out.trans (hb5.mono hwz))
      clear hb5
      go_wp2_with fail
      go_ret2
      exact .inl ⟨_, out, HR.out, rfl, HO5.out, HB5.out⟩
    · have HR := hide (show bytes32F xs = none by rw [bytes32F, HVX.out, Option.bind_some, HBX.out, if_neg hEq])
      have hts : ¬ strOfNums (b32F out) = s := fun h => hEq (by rw [← HSS.out] at h; exact (strOf_inj HQB.out HSB.out).1 h)
      generalize strOfNums (b32F out) = t at HBS hts
      have hts2 : (t.toList == s.toList) = false := str_ne hts
      clear HQB HVX HBX hEq HBY HV
      go_wp2_with fail
      refine HBS.out.mono ?_
      rintro e w5 ⟨rfl, hb5⟩
      have HB5 := hide (HB.out.trans (hb5.mono hwz))
      clear hb5
      go_wp2_with fail
      go_ret2
      exact .inr ⟨HR.out, rfl, HB5.out⟩
end Go.Proofs.YthdjgebbjogmiaaDoor
