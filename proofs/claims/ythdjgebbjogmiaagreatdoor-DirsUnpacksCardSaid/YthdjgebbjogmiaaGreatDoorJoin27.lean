/- The reference's TakeNet: the row at the beginning of bytes. Condition: at most 2^40 bytes.
The reference's TakeNets: just so many rows. Condition: at most a million rows; at most 2^40 bytes. -/
import Derived.Test.YthdjgebbjogmiaaGreatDoorJoin23
import Derived.BigQuiet
import Derived.Deep.DeepCutAuto
import Derived.Deep.CutRange
import Derived.LoopIn
import Derived.Deep.CutBlock
set_option linter.unusedVariables false
set_option linter.unusedSimpArgs false
namespace Go.Proofs.YthdjgebbjogmiaaGreatDoor
open Go Go.RowKit
set_option maxRecDepth 100000

theorem szR_stop (b : List Int) (n d : Nat) (h : b = [] ∨ ¬ isDg (b.getD 0 0) ∨ ¬ d < 6) : szR n d b = (n, d) := by
 cases b with
 | nil => rfl
 | cons c cs =>
  rw [szR, if_neg];rintro ⟨h1, h2⟩
  rcases h with h | h | h
  · cases h
  · exact h h1
  · exact h h2
theorem szR_go (b : List Int) (n d : Nat) (hl : 0 < b.length) (h1 : isDg (b.getD 0 0)) (h2 : d < 6) : szR n d b = szR (10 * n + (b.getD 0 0 - 48).toNat) (d + 1) (b.drop 1) := by
 cases b with
 | nil => simp at hl
 | cons c cs => rw [szR, if_pos ⟨h1, h2⟩]; rfl
/-- What the reference's TakeNet answers. -/
def TakePostR (w : World) (B : Nat) (xs : List Int) (e : Ending) (w' : World) : Prop :=
 (∃ v1 v2 x r, takeF xs = some (x, r) ∧ e = .returned (.tuple #[v1, v2, .bool true]) ∧ Bs w' B v1 x ∧ Bs w' B v2 r ∧ Below w.heap.size w w') ∨
 (takeF xs = none ∧ e = .returned (.tuple #[.slice none 0 0, .slice none 0 0, .bool false]) ∧ Below w.heap.size w w')

set_option maxHeartbeats 4000000 in
theorem TakeNet_ref (v : Value) (xs : List Int) (w : World) (B : Nat) (hB : B ≤ w.heap.size) (hv : Bs w B v xs) (hb : Bytes xs) (hn : xs.length ≤ 1099511627776) :
 Calls Tryz.prog 31 #[v] w (TakePostR w B xs) := by
 have HBX := hide hb;have HV := hide hv;obtain ⟨A, c, rfl, h1, h2, h3⟩ := hv.open_;unfold maxLen at h2;have H3 := hide h3;obtain ⟨l, HL⟩ : ∃ n, Hid (xs.length = n) := ⟨_, hide rfl⟩
 have HTF := hide (show takeF xs = (if (szR 0 0 xs).2 = 0 ∨ l ≤ (szR 0 0 xs).2 ∨ xs.getD (szR 0 0 xs).2 0 ≠ 58 ∨ (xs.getD 0 0 = 48 ∧ 1 < (szR 0 0 xs).2) ∨ 16384 < (szR 0 0 xs).1 ∨ l < (szR 0 0 xs).2 + (szR 0 0 xs).1 + 2 ∨ xs.getD ((szR 0 0 xs).2 + 1 + (szR 0 0 xs).1) 0 ≠ 44 then none
  else some ((xs.drop ((szR 0 0 xs).2 + 1)).take (szR 0 0 xs).1, xs.drop ((szR 0 0 xs).2 + (szR 0 0 xs).1 + 2))) by rw [← HL.out, ← takeR_eq]; rfl)
 rw [HL.out] at h1 H3 hn HV;rw [HL.out];obtain ⟨⟨N, D⟩, HR⟩ : ∃ r, Hid (szR 0 0 xs = r) := ⟨_, hide rfl⟩;rw [HR.out] at HTF;simp only at HTF;have HR0 := hide (show szR 0 0 (xs.drop 0) = (N, D) from HR.out);clear hv hb h3 HR
 go_enter Tryz.func31, Tryz.ntmps31
 go_upto_block 0 with fail
 go_cut [5, 6] from 7 to 39 (fun v5 v6 wx => D ≤ l ∧ N ≤ 999999 ∧ D ≤ 6 ∧ v5 = .int .i64 (D : Int) ∧ v6 = .int .i64 (N : Int) ∧ Below w.heap.size w wx)
 case first =>
  go_wp2_with fail
  go_loopw [5, 6] (fun v5 v6 wr => ∃ n d : Nat, d ≤ l ∧ d ≤ 6 ∧ n < 10 ^ d ∧ v6 = .int .i64 n ∧ v5 = .int .i64 d ∧ szR n d (xs.drop d) = (N, D) ∧ w = wr) (fun v5 _ _ => l - (intOf v5).toNat)
  case atStart => exact ⟨0, 0, by omega, by omega, by decide, rfl, rfl, HR0.out, rfl⟩
  case round =>
   obtain ⟨n, d, hd, hd6, hn10, rfl, rfl, hs, rfl⟩ := hrel;have HS := hide hs
   have hn6 : n ≤ 999999 := by
    have : 10 ^ d ≤ 10 ^ 6 := Nat.pow_le_pow_right (by omega) hd6
    have e6 : (10 : Nat) ^ 6 = 1000000 := by decide
    omega
   have HN10 := hide hn10;clear hs hn10
   by_cases hdl : d < l
   · obtain ⟨b, o, rfl, hbb, hc⟩ := H3.out (by omega)
     obtain ⟨x, HX⟩ : ∃ x, Hid (xs.getD d 0 = x) := ⟨_, hide rfl⟩;have c1 := hc d x hdl HX.out;have hx := HBX.out.at_ d;rw [HX.out] at hx;obtain ⟨hx0, hx1⟩ := hx
     have d0 : (0 : Int) ≤ (d : Int) := by omega
     have d1 : (d : Int) < (l : Int) := by omega
     clear hc
     by_cases hg1 : 48 ≤ x
     · by_cases hg2 : x ≤ 57
       · by_cases hn2 : d < 6
         · have n2 : (d : Int) < 6 := by omega
           have HN := hide (show szR (10 * n + (x - 48).toNat) (d + 1) (xs.drop (d + 1)) = (N, D) by
            have := szR_go (xs.drop d) n d (by rw [List.length_drop, HL.out]; omega) (by rw [drop_getD, HX.out]; exact ⟨hg1, hg2⟩) hn2
            rw [HS.out, drop_getD, HX.out, List.drop_drop] at this
            exact this.symm)
           have HN11 := hide (show 10 * n + (x - 48).toNat < 10 ^ (d + 1) by have := HN10.out; rw [Nat.pow_succ]; omega)
           go_wp2_with fail
           go_roundw
           case measure => simp [intOf]; omega
           case rel => exact ⟨10 * n + (x - 48).toNat, d + 1, by omega, by omega, HN11.out, by refine congrArg (Value.int .i64) ?_; omega, by go_num, HN.out, by first | rfl | trivial⟩
         · have n2 : ¬ (d : Int) < 6 := by omega
           have e := (szR_stop (xs.drop d) n d (.inr (.inr (by omega)))).symm.trans HS.out
           injection e with e1 e2
           subst e1 e2
           go_wp2_with fail
           go_meet
           exact ⟨hd, hn6, hd6, rfl, rfl, Below.refl _ _⟩
       · have e := (szR_stop (xs.drop d) n d (.inr (.inl (by rw [drop_getD, HX.out]; unfold isDg; omega)))).symm.trans HS.out
         injection e with e1 e2
         subst e1 e2
         go_wp2_with fail
         go_meet
         exact ⟨hd, hn6, hd6, rfl, rfl, Below.refl _ _⟩
     · have e := (szR_stop (xs.drop d) n d (.inr (.inl (by rw [drop_getD, HX.out]; unfold isDg; omega)))).symm.trans HS.out
       injection e with e1 e2
       subst e1 e2
       go_wp2_with fail
       go_meet
       exact ⟨hd, hn6, hd6, rfl, rfl, Below.refl _ _⟩
   · have e := (szR_stop (xs.drop d) n d (.inl (List.drop_of_length_le (by rw [HL.out]; omega)))).symm.trans HS.out
     injection e with e1 e2
     subst e1 e2
     have d1 : ¬ (d : Int) < (l : Int) := by omega
     go_wp2_with fail
     go_meet
     exact ⟨hd, hn6, hd6, rfl, rfl, Below.refl _ _⟩
 case rest =>
  obtain ⟨hD, hN, hD6, rfl, rfl, hbel⟩ := hcut;have HB := hide hbel;clear hbel HR0
  by_cases hD0 : D = 0
  · have HNO := hide (show takeF xs = none by rw [HTF.out, if_pos (.inl hD0)])
    subst hD0
    go_wp2_with fail
    go_ret3
    exact .inr ⟨HNO.out, rfl, HB.out⟩
  have dd1 : ((D : Int) == 0) = false := beq_eq_false_iff_ne.2 (by omega)
  by_cases hDl : l ≤ D
  · have HNO := hide (show takeF xs = none by rw [HTF.out, if_pos (.inr (.inl hDl))])
    have g0 : (l : Int) ≤ (D : Int) := by omega
    go_wp2_with fail
    go_ret3
    exact .inr ⟨HNO.out, rfl, HB.out⟩
  have g0 : ¬ (l : Int) ≤ (D : Int) := by omega
  have l1 : (D : Int) < (l : Int) := by omega
  obtain ⟨b, o, rfl, hbb, hc⟩ := H3.out (by omega);obtain ⟨x0, HX0⟩ : ∃ x, Hid (xs.getD 0 0 = x) := ⟨_, hide rfl⟩;obtain ⟨x1, HX1⟩ : ∃ x, Hid (xs.getD D 0 = x) := ⟨_, hide rfl⟩;have c0 := (HB.out.cell (p := ⟨b, o + 0, none⟩) (by simp; omega)).trans (hc 0 x0 (by omega) HX0.out);rw [Nat.add_zero] at c0;have c1 := (HB.out.cell (p := ⟨b, o + D, none⟩) (by simp; omega)).trans (hc D x1 (by omega) HX1.out);have HC := hide hc
  have d0 : (0 : Int) ≤ (D : Int) := by omega
  have l0 : (0 : Int) < (l : Int) := by omega
  rw [HX0.out, HX1.out] at HTF;clear hc
  by_cases h5 : x1 = 58
  case neg =>
   have HNO := hide (show takeF xs = none by rw [HTF.out, if_pos (.inr (.inr (.inl h5)))])
   have g5 : (x1 != 58) = true := by simp [h5]
   go_wp2_with fail
   go_ret3
   exact .inr ⟨HNO.out, rfl, HB.out⟩
  have g5 : (x1 != 58) = false := by simp [h5]
  by_cases hlead : x0 = 48 ∧ 1 < D
  · have HNO := hide (show takeF xs = none by rw [HTF.out, if_pos (.inr (.inr (.inr (.inl hlead))))])
    obtain ⟨rfl, hl1⟩ := hlead
    have g1 : (1 : Int) < (D : Int) := by omega
    go_wp2_with fail
    go_ret3
    exact .inr ⟨HNO.out, rfl, HB.out⟩
  obtain ⟨lead, hlead2⟩ : ∃ p : Bool, ((x0 == 48) = false ∧ p = true) ∨ ((x0 == 48) = true ∧ ¬ 1 < D ∧ p = false) := by
   by_cases h0 : x0 = 48
   · exact ⟨false, .inr ⟨by rw [h0]; rfl, fun h => hlead ⟨h0, h⟩, rfl⟩⟩
   · exact ⟨true, .inl ⟨beq_eq_false_iff_ne.2 h0, rfl⟩⟩
  have HLEAD := hide hlead;clear hlead
  rcases hlead2 with ⟨g3, _⟩ | ⟨g3, hd1, _⟩
  all_goals
   by_cases hbig : 16384 < N
   · have HNO := hide (show takeF xs = none by rw [HTF.out, if_pos (.inr (.inr (.inr (.inr (.inl hbig)))))])
     have g2 : (16384 : Int) < (N : Int) := by omega
     go_wp2_with fail
     go_ret3
     exact .inr ⟨HNO.out, rfl, HB.out⟩
   have g2 : ¬ (16384 : Int) < (N : Int) := by omega
   by_cases h4 : l < D + N + 2
   · have HNO := hide (show takeF xs = none by rw [HTF.out, if_pos (.inr (.inr (.inr (.inr (.inr (.inl h4))))))])
     have g4 : (l : Int) < (D : Int) + (N : Int) + 2 := by omega
     go_wp2_with fail
     go_ret3
     exact .inr ⟨HNO.out, rfl, HB.out⟩
   have g4 : ¬ (l : Int) < (D : Int) + (N : Int) + 2 := by omega
   obtain ⟨x2, HX2⟩ : ∃ x, Hid (xs.getD (D + 1 + N) 0 = x) := ⟨_, hide rfl⟩;have cc2 := (HB.out.cell (p := ⟨b, o + (D + 1 + N), none⟩) (by simp; omega)).trans (HC.out (D + 1 + N) x2 (by omega) HX2.out)
   have l2 : (D : Int) + 1 + (N : Int) < (l : Int) := by omega
   have d2 : (0 : Int) ≤ (D : Int) + 1 + (N : Int) := by omega
   have HTG := hide HTF.out;rw [HX2.out] at HTG
   by_cases h6 : x2 = 44
   case neg =>
    have HNO := hide (show takeF xs = none by rw [HTG.out, if_pos (.inr (.inr (.inr (.inr (.inr (.inr h6))))))])
    have g6 : (x2 != 44) = true := by simp [h6]
    clear HTG
    go_wp2_with fail
    go_ret3
    exact .inr ⟨HNO.out, rfl, HB.out⟩
   have HYES := hide (show takeF xs = some ((xs.drop (D + 1)).take N, xs.drop (D + N + 2)) by
    rw [HTG.out, if_neg];rintro (h | h | h | h | h | h | h)
    · exact hD0 h
    · exact hDl h
    · exact h h5
    · exact HLEAD.out h
    · exact hbig h
    · exact h4 h
    · exact h h6)
   have g6 : (x2 != 44) = false := by simp [h6]
   clear HTG;have hd16 : decide ((16384 : Int) < (N : Int)) = false := decide_eq_false g2;have hdl : decide ((l : Int) < (D : Int) + (N : Int) + 2) = false := decide_eq_false g4
   have HS1 := hide (show Bs w B (.slice (some ⟨b, o + (D + 1), none⟩) (D + 1 + N - (D + 1)) (c - (D + 1))) ((xs.drop (D + 1)).take N) by
    rw [show D + 1 + N - (D + 1) = N by omega]
    exact (Bs.drop (by rw [HL.out]; exact HV.out) (D + 1) (by rw [HL.out]; omega)).take N (by rw [List.length_drop, HL.out]; omega))
   have HS2 := hide (show Bs w B (.slice (if c = D + N + 2 then some ⟨b, o, none⟩ else some ⟨b, o + (D + N + 2), none⟩) (l - (D + N + 2)) (c - (D + N + 2))) (xs.drop (D + N + 2)) by
    split
    · have e : xs.drop (D + N + 2) = [] := List.drop_of_length_le (by rw [HL.out]; omega)
      rw [e, show l - (D + N + 2) = 0 by omega];exact ⟨_, _, rfl, Nat.zero_le _, by unfold maxLen; omega, rfl, fun h => absurd h (by simp)⟩
    have := Bs.drop (by rw [HL.out]; exact HV.out) (D + N + 2) (by rw [HL.out]; omega)
    rw [HL.out] at this
    exact this)
   obtain ⟨y1, HY1⟩ : ∃ y, Hid ((xs.drop (D + 1)).take N = y) := ⟨_, hide rfl⟩;obtain ⟨y2, HY2⟩ : ∃ y, Hid (xs.drop (D + N + 2) = y) := ⟨_, hide rfl⟩;rw [HY1.out] at HYES HS1;rw [HY2.out] at HYES HS2;clear HY1 HY2 HX1 HX2 HX0 HTF
   have i1 : (D : Int) + 1 ≤ (D : Int) + 1 + (N : Int) := by omega
   have i2 : (D : Int) + 1 + (N : Int) ≤ (c : Int) := by omega
   have i3 : (D : Int) + (N : Int) + 2 ≤ (l : Int) := by omega
   have i4 : (l : Int) ≤ (c : Int) := by omega
   go_wp2_with fail
   have HSW := hide (HS1.out.below HB.out hB);have HSX := hide (HS2.out.below HB.out hB);rw [show D + 1 + N - (D + 1) = N by omega] at HSW
   go_quiet (fail)
   go_wp2_with fail
   all_goals
    go_ret3
    first
     | exact .inl ⟨_, _, y1, y2, HYES.out, rfl, HSW.out.below (Go.below_drewN (Below.refl w.heap.size wc) nq) hB, (by have h' := HSX.out; rw [if_neg h] at h'; exact h'.below (Go.below_drewN (Below.refl w.heap.size wc) nq) hB), Go.below_drewN HB.out nq⟩
     | exact .inl ⟨_, _, y1, y2, HYES.out, rfl, (by have h' := HSW.out; rw [show c - (D + 1) = D + N + 1 - D by omega] at h'; exact h'.below (Go.below_drewN (Below.refl w.heap.size wc) nq) hB), (by have h' := HSX.out; rw [if_pos h, show c - (D + N + 2) = 0 by omega] at h'; exact h'.below (Go.below_drewN (Below.refl w.heap.size wc) nq) hB), Go.below_drewN HB.out nq⟩

set_option maxHeartbeats 2000000 in
theorem TakeNets_ref (v : Value) (xs : List Int) (k : Int) (w : World) (hv : Bs w w.heap.size v xs) (hb : Bytes xs) (hn : xs.length ≤ 1099511627776) (hk : -9223372036854775808 ≤ k ∧ k ≤ 1000000) :
 Calls Tryz.prog 32 #[v, .int .i64 k] w (TakesPost w k xs) := by
 have HV := hide hv;have HBX := hide hb;obtain ⟨A, c, rfl, h1, h2, h3⟩ := hv.open_;obtain ⟨hk1, hk2⟩ := hk;clear h1 h2 h3 hv hb
 go_enter Tryz.func32, Tryz.ntmps32
 by_cases hneg : k < 0
 · have HNO := hide (show takesI k xs = none by rw [takesI, if_pos hneg])
   go_wp2_with fail
   go_loopw [7] (fun v7 wr => v7 = .int .i64 0 ∧ w = wr) (fun _ _ => 0)
   case atStart => exact ⟨rfl, rfl⟩
   case round =>
    obtain ⟨rfl, rfl⟩ := hrel
    have g0 : ¬ (0 : Int) < k := by omega
    go_wp2_with fail
    go_ret2
    exact .inr ⟨HNO.out, rfl, Below.refl _ _⟩
 obtain ⟨n, rfl⟩ := Int.eq_ofNat_of_zero_le (show 0 ≤ k by omega);have HI := hide (show takesI (n : Int) xs = takesF n xs by rw [takesI, if_neg (by omega)]; rfl)
 have hn6 : n ≤ 1000000 := by omega
 obtain ⟨R, HR⟩ : ∃ r, Hid (takesI (n : Int) xs = r) := ⟨_, hide rfl⟩
 have HR0 := hide (show (takesF (n - 0) xs).map ([] ++ ·) = R by
  rw [← HR.out, HI.out, Nat.sub_zero]
  cases takesF n xs <;> rfl)
 clear HI hk1 hk2
 go_wp2_with fail
 go_loopw [0, 6, 7] (fun v0 v4 v12 wr => ∃ (i : Nat) (rest : List Int) (items : List (List Int)), i ≤ n ∧ v12 = .int .i64 i ∧ Bs wr w.heap.size v0 rest ∧ Bytes rest ∧ rest.length ≤ 1099511627776 ∧ OwnRows wr w.heap.size v4 items ∧ items.length = i ∧ (takesF (n - i) rest).map (items ++ ·) = R ∧ Below w.heap.size w wr) (fun _ _ v12 _ => n - (intOf v12).toNat)
 case atStart => exact ⟨0, xs, [], by omega, rfl, HV.out, HBX.out, hn, OwnRows.nil_ _ _, rfl, HR0.out, Below.refl _ _⟩
 case round =>
  obtain ⟨i, rest, items, hi, rfl, hbs, hby, hrl, ho, hil, hT, hbel⟩ := hrel;have HBS := hide hbs;have HBY := hide hby;have HO := hide ho;have HTT := hide hT;have HB := hide hbel;have hwz := hbel.size;clear hbs hby ho hT hbel
  by_cases hit : i < n
  · have i1 : (i : Int) < (n : Int) := by omega
    have HCALL := hide (TakeNet_ref _ rest wr w.heap.size hwz HBS.out HBY.out hrl)
    go_wp2_with fail
    refine HCALL.out.mono ?_;rintro e w1 (⟨v1, v2, x, r, ht, rfl, ho1, ho2, hb1⟩ | ⟨ht, rfl, hb1⟩)
    · have HO1 := hide ho1
      have HO2 := hide ho2;have hz1 := hb1.size;have HB1 := hide (HB.out.trans (hb1.mono hwz));have HOW := hide (HO.out.keptB hb1 hwz);have hll := (take_len ht).1
      have HTN := hide (show (takesF (n - (i + 1)) r).map ((items ++ [x]) ++ ·) = R by
       have h := HTT.out;rw [show n - i = (n - (i + 1)) + 1 by omega, takesF, ht, Option.bind_some, Option.map_map] at h;rw [← h]
       simp only [Function.comp_def, List.append_assoc, List.singleton_append])
      have HBR := hide (show Bytes r from fun z hz => HBY.out z (by rw [(take_sound rest x r ht).1]; exact List.mem_append_right _ hz));obtain ⟨A1, c1, rfl, _, _, _⟩ := ho1.open_;clear ho1 ho2 hb1 ht HCALL HO HB HTT HBS HBY
      go_wp2_with (at_builtin; go_must (refine wpList_append_row rfl _ _ rfl w.heap.size _ items rfl HOW.out (by omega) _ x (.inl HO1.out) rfl (by omega) ?_); intro v25 w2 ho25 hb25 hk25; have HO25 := hide ho25; have HB25 := hide (HB1.out.trans hb25); have HOR := hide (HO2.out.below hb25 (Nat.le_refl _)); clear ho25 hb25 hk25)
      go_roundw
      case measure => simp [intOf]; omega
      case rel => exact ⟨i + 1, r, items ++ [x], by omega, by go_num, HOR.out, HBR.out, by omega, HO25.out, by simp [hil], HTN.out, HB25.out⟩
    · have HNO := hide (show takesI (n : Int) xs = none by
       rw [HR.out, ← HTT.out, show n - i = (n - (i + 1)) + 1 by omega, takesF, ht]; rfl)
      go_wp2_with fail
      go_ret2
      exact .inr ⟨HNO.out, rfl, HB.out.trans (hb1.mono hwz)⟩
  · have e : i = n := by omega
    subst e
    have i1 : ¬ (i : Int) < (i : Int) := by omega
    obtain ⟨A1, c1, rfl, g1, g2, g3⟩ := HBS.out.open_;have HTZ := hide (show (takesF 0 rest).map (items ++ ·) = R by have := HTT.out; rwa [Nat.sub_self] at this);clear g3
    by_cases hre : rest = []
    · have HYES := hide (show takesI (i : Int) xs = some items by rw [HR.out, ← HTZ.out, takesF, if_pos hre]; simp)
      subst hre
      go_wp2_with fail
      go_ret2
      exact .inl ⟨_, items, HYES.out, rfl, HO.out, HB.out⟩
    · have HNO := hide (show takesI (i : Int) xs = none by rw [HR.out, ← HTZ.out, takesF, if_neg hre]; rfl)
      have hp : (0 : Int) < (rest.length : Int) := by have := List.length_pos_iff.2 hre; omega
      go_wp2_with fail
      go_ret2
      exact .inr ⟨HNO.out, rfl, HB.out⟩
end Go.Proofs.YthdjgebbjogmiaaGreatDoor
