/- The reference's Base32 of bytes: their letters. Condition: at most 2^40 bytes.
The reference's Bytes32: the bytes of letters, or that there are none. Condition: at most 2^40 letters. -/
import Derived.Test.YthdjgebbjogmiaaGreatDoorJoin3
import Derived.Test.YthdjgebbjogmiaaGreatDoorJoin9
set_option linter.unusedVariables false
set_option linter.unusedSimpArgs false
namespace Go.Proofs.YthdjgebbjogmiaaGreatDoor
open Go Go.RowKit
set_option maxRecDepth 100000

theorem em2_mod (H N : Nat) (h : N ≤ 7) : em 2 (H % 2 ^ N) N = em 2 H N := by
 rw [em_two, em_two]
 by_cases h5 : 5 ≤ N
 · rw [if_pos h5, if_pos h5, if_neg (by omega), if_neg (by omega)]
   rcases show N = 5 ∨ N = 6 ∨ N = 7 by omega with rfl | rfl | rfl
   · rw [show H % 2 ^ 5 / 2 ^ (5 - 5) % 32 = H / 2 ^ (5 - 5) % 32 by simp]
   · rw [show H % 2 ^ 6 / 2 ^ (6 - 5) % 32 = H / 2 ^ (6 - 5) % 32 by simp; omega]
   · rw [show H % 2 ^ 7 / 2 ^ (7 - 5) % 32 = H / 2 ^ (7 - 5) % 32 by simp; omega]
 · rw [if_neg h5, if_neg h5]

set_option maxHeartbeats 4000000 in
theorem Base32_ref (v : Value) (xs : List Int) (w : World) (hv : Bs w w.heap.size v xs) (hb : Bytes xs) (hn : xs.length ≤ 1099511627776) :
 Calls Tryz.prog 41 #[v] w fun e w' => e = .returned (.string (strOfNums (b32F xs))) ∧ Below w.heap.size w w' := by
 have HBX := hide hb;have HRL := hide (b32F_len xs);obtain ⟨R, HR⟩ : ∃ r, Hid (b32F xs = r) := ⟨_, hide rfl⟩;have HR0 := hide (show b32 0 0 xs = R from HR.out);have HRB := hide (show Bytes R by rw [← HR.out]; exact b32F_bytes xs);rw [HR.out] at HRL;rw [HR.out];obtain ⟨A, c, rfl, h1, h2, h3⟩ := hv.open_;unfold maxLen at h2;have H3 := hide h3;obtain ⟨n, HN⟩ : ∃ n, Hid (xs.length = n) := ⟨_, hide rfl⟩;rw [HN.out] at h1 hn HRL H3;rw [HN.out];clear hv hb h3 HR
 go_enter Tryz.func41, Tryz.ntmps41
 go_wp2_with fail
 go_loopw [3, 4, 5, 9] (fun v3 v4 v5 v10 wr => ∃ (i h m : Nat) (out : List Int), i ≤ n ∧ v10 = .int .i64 i ∧ v4 = .int .i64 h ∧ v5 = .int .i64 m ∧ m < 5 ∧ h < 2 ^ m ∧ RowB wr w.heap.size v3 out ∧ out ++ b32 h m (xs.drop i) = R ∧ Below w.heap.size w wr) (fun _ _ _ v10 _ => n - (intOf v10).toNat)
 case atStart => exact ⟨0, 0, 0, [], by omega, rfl, rfl, rfl, by omega, by decide, RowB.nil_ _ _, HR0.out, Below.refl _ _⟩
 case round =>
  obtain ⟨i, h, m, out, hi, rfl, rfl, rfl, hm, hh, ho, hR, hbel⟩ := hrel;have HO := hide ho;have HRR := hide hR;have HB := hide hbel;have h16 : h < 16 := Nat.lt_of_lt_of_le hh (Nat.pow_le_pow_right (by decide) (show m ≤ 4 by omega));clear ho hR hbel
  by_cases hit : i < n
  · obtain ⟨b, o, rfl, hbb, hc⟩ := H3.out (by omega)
    obtain ⟨x, HX⟩ : ∃ x, Hid (xs.getD i 0 = x) := ⟨_, hide rfl⟩;have c1 := (HB.out.cell (p := ⟨b, o + i, none⟩) hbb).trans (hc i x hit HX.out);have hx := HBX.out.at_ i;rw [HX.out] at hx;obtain ⟨hx0, hx1⟩ := hx
    have i0 : (0 : Int) ≤ (i : Int) := by omega
    have i1 : (i : Int) < (n : Int) := by omega
    obtain ⟨y, rfl⟩ := Int.eq_ofNat_of_zero_le hx0;clear hc
    go_wp2_with fail
    have e4 : ((h : Int) * 256 + (y : Int)) = ((h * 256 + y : Nat) : Int) := by omega
    have e5 : ((m : Int) + 8) = ((m + 8 : Nat) : Int) := by omega
    rw [e4, e5];clear e4 e5
    have HTL := hide (show out ++ (em 2 (h * 256 + y) (m + 8) ++ b32 ((h * 256 + y) % 2 ^ ((m + 8) % 5)) ((m + 8) % 5) (xs.drop (i + 1))) = R by
     rw [← HRR.out]
     have hil : i < xs.length := by rw [HN.out]; exact hit
     rw [List.drop_eq_getElem_cons hil]
     have ey : (xs[i]'hil).toNat = y := by rw [← getD_el' xs i hil, HX.out]; exact Int.toNat_natCast y
     rw [b32, ey])
    have hHN : h * 256 + y < 2 ^ (m + 8) := by
     have : 2 ^ (m + 8) = 2 ^ m * 256 := by rw [Nat.pow_add]
     omega
    have hH : h * 256 + y < 4096 := by omega
    generalize h * 256 + y = H at HTL hH hHN
    obtain ⟨M, HM⟩ : ∃ M, Hid (m + 8 = M) := ⟨_, hide rfl⟩;rw [HM.out] at HTL hHN;rw [HM.out]
    have hM12 : M ≤ 12 := by rw [← HM.out]; omega
    clear HRR hh
    go_loopw [3, 4, 5] (fun v3 v4 v5 wq => ∃ (N H : Nat) (out' : List Int), v5 = .int .i64 N ∧ v4 = .int .i64 H ∧ N ≤ 12 ∧ H < 2 ^ N ∧ RowB wq w.heap.size v3 out' ∧ out' ++ (em 2 H N ++ b32 (H % 2 ^ (N % 5)) (N % 5) (xs.drop (i + 1))) = R ∧ Below w.heap.size w wq) (fun _ _ v5 _ => (intOf v5).toNat)
    case atStart => exact ⟨M, H, out, rfl, rfl, hM12, hHN, HO.out, HTL.out, HB.out⟩
    case round =>
     clear HO HTL HB hHN hH hM12 HM;obtain ⟨N, H, out', rfl, rfl, hN12, hHN, ho', hR', hbel'⟩ := hrel;have HO' := hide ho';have HR' := hide hR';have HB' := hide hbel';have hwz := hbel'.size;have hH : H < 4096 := Nat.lt_of_lt_of_le hHN (Nat.pow_le_pow_right (by decide) hN12);clear ho' hR' hbel'
     by_cases hN5 : 5 ≤ N
     · have hol : out'.length ≤ R.length := by rw [← HR'.out, List.length_append]; omega
       have holl : out'.length ≤ 2199023255552 := by have := HRL.out; omega
       have hq : H / 2 ^ (N - 5) < 32 := by
        refine Nat.div_lt_of_lt_mul ?_
        have : 2 ^ N = 2 ^ (N - 5) * 32 := by rw [show (32 : Nat) = 2 ^ 5 from rfl, ← Nat.pow_add]; congr 1; omega
        omega
       have hst := em2_step H N hN5 hN12;rw [Nat.mod_eq_of_lt hq, ← em2_mod H (N - 5) (by omega)] at hst;have hmm : H % 2 ^ (N % 5) = (H % 2 ^ (N - 5)) % 2 ^ (N % 5) := (Nat.mod_mod_of_dvd H (Nat.pow_dvd_pow 2 (by omega))).symm
       have h55 : N % 5 = (N - 5) % 5 := by omega
       rw [hst, hmm, h55] at HR';have HAND := hide (and_low H (N - 5) (by omega) (by omega));have hlt : H % 2 ^ (N - 5) < 2 ^ (N - 5) := Nat.mod_lt _ (Nat.pow_pos (by decide));clear hst hmm h55;obtain ⟨H', eH⟩ : ∃ H', H % 2 ^ (N - 5) = H' := ⟨_, rfl⟩;rw [eH] at HR' HAND hlt;clear eH;obtain ⟨q2, eq2⟩ : ∃ q2 : Int, ((2 ^ (N - 5) - 1 : Nat) : Int) = q2 := ⟨_, rfl⟩;rw [eq2] at HAND;obtain ⟨q, HQ⟩ : ∃ q, Hid (H / 2 ^ (N - 5) = q) := ⟨_, hide rfl⟩;rw [HQ.out] at HR' hq;have HQB := hide (show Bytes [ltr q] from fun x hx => by simp at hx; subst hx; exact ltr_byte hq);obtain ⟨lq, eL⟩ : ∃ l, ltr q = l := ⟨_, rfl⟩
       have HLT := hide (show ∀ (ops : Array Oper) (rest : List Oper) (o : Oper) (a : Act) (w : World) (Q : Exit → Act → World → Prop) (x : Operand) (z : Int), o.guard = none → o.op = .index 9 (.const (.string lettersS)) x → a.eval x = .int .i64 z → z = ((H / 2 ^ (N - 5) : Nat) : Int) →
        wpList Tryz.prog ops Q rest (a.put o.dst (.int .u8 lq)) w → wpList Tryz.prog ops Q (o :: rest) a w from fun ops rest o a w Q x z hg ho hx hz h => wpList_letter hg x ho z hx q (by rw [hz, HQ.out]) hq (by rw [eL]; exact h))
       rw [eL] at HR' HQB;obtain ⟨E2, eE⟩ : ∃ E : Nat → List Int, (fun j => em 2 H' j ++ b32 (H' % 2 ^ (j % 5)) (j % 5) (xs.drop (i + 1))) = E := ⟨_, rfl⟩;have HRE := hide (show ∀ j, j = N - 5 → (out' ++ [lq]) ++ (em 2 H' j ++ b32 (H' % 2 ^ (j % 5)) (j % 5) (xs.drop (i + 1))) = R from fun j hj => by rw [hj, ← HR'.out, List.append_assoc]; rfl);clear eL HR' HQ eE;have HL3 := hide ((RowB.of_blk (base := 0) (Blk.new wr 5 (u8s [lq])) (by omega) HQB.out (by unfold maxLen; simp)).reads);have hba := (Below.refl wr.heap.size wr).alloc (Nat.le_refl _) (.cells (u8s [lq]).toArray 5);have HO3 := hide (HO'.out.keptB hba);have HB3 := hide (HB'.out.trans (hba.mono hwz));have hz3 := hba.size;clear hba
       rcases show N = 5 ∨ N = 6 ∨ N = 7 ∨ N = 8 ∨ N = 9 ∨ N = 10 ∨ N = 11 ∨ N = 12 by omega with rfl | rfl | rfl | rfl | rfl | rfl | rfl | rfl
       all_goals
        clear hN5 hN12
        simp at eq2
        subst eq2
        go_wp2_with (first
         | (refine HLT.out _ _ _ _ _ _ _ _ rfl rfl rfl (by simp) ?_)
         | (at_builtin; go_must (refine wpList_append_B rfl _ _ rfl w.heap.size _ _ rfl HO3.out _ _ [lq] rfl HL3.out HQB.out (by simp; omega) (Nat.le_trans hwz hz3) ?_); intro v9 w4 ho9 hg4; have HB4 := hide (HB3.out.grown hg4 (Nat.le_trans hwz hz3) (fun k hk => (HO3.out.base_ k hk).1)); have HO9 := hide ho9; clear ho9 hg4 HB3 HO3 HL3))
        go_roundw
        case measure => simp [intOf]
        case rel => first
         | exact ⟨0, H', out' ++ [lq], rfl, congrArg _ HAND.out, by omega, hlt, HO9.out, HRE.out 0 (by omega), HB4.out⟩
         | exact ⟨1, H', out' ++ [lq], rfl, congrArg _ HAND.out, by omega, hlt, HO9.out, HRE.out 1 (by omega), HB4.out⟩
         | exact ⟨2, H', out' ++ [lq], rfl, congrArg _ HAND.out, by omega, hlt, HO9.out, HRE.out 2 (by omega), HB4.out⟩
         | exact ⟨3, H', out' ++ [lq], rfl, congrArg _ HAND.out, by omega, hlt, HO9.out, HRE.out 3 (by omega), HB4.out⟩
         | exact ⟨4, H', out' ++ [lq], rfl, congrArg _ HAND.out, by omega, hlt, HO9.out, HRE.out 4 (by omega), HB4.out⟩
         | exact ⟨5, H', out' ++ [lq], rfl, congrArg _ HAND.out, by omega, hlt, HO9.out, HRE.out 5 (by omega), HB4.out⟩
         | exact ⟨6, H', out' ++ [lq], rfl, congrArg _ HAND.out, by omega, hlt, HO9.out, HRE.out 6 (by omega), HB4.out⟩
         | exact ⟨7, H', out' ++ [lq], rfl, congrArg _ HAND.out, by omega, hlt, HO9.out, HRE.out 7 (by omega), HB4.out⟩
     · rw [em2_end H N (by omega), List.nil_append, Nat.mod_eq_of_lt (show N < 5 by omega), Nat.mod_eq_of_lt hHN] at HR'
       have HHN := hide hHN;clear hHN hH
       have n5 : ¬ (5 : Int) ≤ (N : Int) := by omega
       go_wp2_with fail
       go_roundw
       case measure => simp [intOf]; omega
       case rel => exact ⟨i + 1, H, N, out', by omega, by go_num, rfl, rfl, by omega, HHN.out, HO'.out, HR'.out, HB'.out⟩
  · have e : i = n := by omega
    subst e;have hwz := HB.out.size;have HR' := hide (show out ++ b32 h m [] = R by rw [← HRR.out, List.drop_of_length_le (by rw [HN.out]; exact Nat.le_refl _)])
    have hol : out.length ≤ R.length := by rw [← HR'.out, List.length_append]; omega
    have holl : out.length ≤ 2199023255552 := by have := HRL.out; omega
    have i1 : ¬ (i : Int) < (i : Int) := by omega
    clear HRR hit hi
    by_cases hm0 : m = 0
    · subst hm0
      have HRO := hide (show out = R by have := HR'.out; rw [b32, if_neg (by omega), List.append_nil] at this; exact this);rw [HRO.out] at HO;clear HR' hh HRO
      go_wp2_with (refine wpList_to_string rfl _ rfl _ _ R rfl HO.out.reads ?_)
      go_ret
      exact ⟨rfl, HB.out⟩
    · have hq : h * 2 ^ (5 - m) < 32 := by
       rcases show m = 1 ∨ m = 2 ∨ m = 3 ∨ m = 4 by omega with rfl | rfl | rfl | rfl <;> simp at hh ⊢ <;> omega
      have HRO := hide (show out ++ [ltr (h * 2 ^ (5 - m))] = R by have := HR'.out; rw [b32, if_pos (by omega), Nat.mod_eq_of_lt hq] at this; exact this);obtain ⟨q, HQ⟩ : ∃ q, Hid (h * 2 ^ (5 - m) = q) := ⟨_, hide rfl⟩;rw [HQ.out] at HRO hq;clear HR';have HQB := hide (show Bytes [ltr q] from fun x hx => by simp at hx; subst hx; exact ltr_byte hq);obtain ⟨lq, eL⟩ : ∃ l, ltr q = l := ⟨_, rfl⟩
      have HLT := hide (show ∀ (ops : Array Oper) (rest : List Oper) (o : Oper) (a : Act) (w : World) (Q : Exit → Act → World → Prop) (x : Operand) (z : Int), o.guard = none → o.op = .index 9 (.const (.string lettersS)) x → a.eval x = .int .i64 z → z = ((h * 2 ^ (5 - m) : Nat) : Int) →
       wpList Tryz.prog ops Q rest (a.put o.dst (.int .u8 lq)) w → wpList Tryz.prog ops Q (o :: rest) a w from fun ops rest o a w Q x z hg ho hx hz h => wpList_letter hg x ho z hx q (by rw [hz, HQ.out]) hq (by rw [eL]; exact h))
      rw [eL] at HRO HQB;clear eL HQ;have HL3 := hide ((RowB.of_blk (base := 0) (Blk.new wr 5 (u8s [lq])) (by omega) HQB.out (by unfold maxLen; simp)).reads);have hba := (Below.refl wr.heap.size wr).alloc (Nat.le_refl _) (.cells (u8s [lq]).toArray 5);have HO3 := hide (HO.out.keptB hba);have HB3 := hide (HB.out.trans (hba.mono hwz));have hz3 := hba.size;clear hba
      rcases show m = 1 ∨ m = 2 ∨ m = 3 ∨ m = 4 by omega with rfl | rfl | rfl | rfl
      all_goals
       clear hm0 hm hh
       go_wp2_with (first
        | (refine HLT.out _ _ _ _ _ _ _ _ rfl rfl rfl (by simp) ?_)
        | (at_builtin; go_must (refine wpList_append_B rfl _ _ rfl w.heap.size _ _ rfl HO3.out _ _ [lq] rfl HL3.out HQB.out (by simp; omega) (Nat.le_trans hwz hz3) ?_); intro v9 w4 ho9 hg4; have HB4 := hide (HB3.out.grown hg4 (Nat.le_trans hwz hz3) (fun k hk => (HO3.out.base_ k hk).1)); rw [HRO.out] at ho9; have HO9 := hide ho9; clear ho9 hg4 HB3 HO3 HL3)
        | (refine wpList_to_string rfl _ rfl _ _ R rfl HO9.out.reads ?_))
       go_ret
       exact ⟨rfl, HB4.out⟩

set_option maxHeartbeats 4000000 in
theorem Bytes32_ref (s : ByteArray) (w : World) (hn : s.size ≤ 1099511627776) :
 Calls Tryz.prog 54 #[.string s] w (By32Post w (strB s)) := by
 have HSL := hide (strB_len s);have HSB := hide (strB_bytes s);have HSS := hide (strOf_strB s)
 have HAT := hide (fun (i : Nat) (h : i < s.size) => (show ∀ w : World, (Instr.index 9 (.string s) (.int .i64 (i : Int))).run Tryz.prog w = .ok (.int .u8 ((strB s).getD i 0)) w from fun w => by
  rw [run_index_string w 9 s .i64 (i : Int) Tryz.underlying9, dif_pos ⟨by omega, by omega⟩];simp only [Int.toNat_natCast];rw [strB, List.getD_eq_getElem?_getD, List.getElem?_map, List.getElem?_eq_getElem (by rw [Array.length_toList]; exact h)]
  rfl))
 obtain ⟨xs, HXS⟩ : ∃ x, Hid (strB s = x) := ⟨_, hide rfl⟩;rw [HXS.out] at HSL HSB HSS HAT;rw [HXS.out];obtain ⟨n, HN⟩ : ∃ n, Hid (s.size = n) := ⟨_, hide rfl⟩
 have hsn : s.size ≤ n := by rw [HN.out]; exact Nat.le_refl _
 have hns : n ≤ s.size := by rw [HN.out]; exact Nat.le_refl _
 rw [HN.out] at HSL;clear HXS
 go_enter Tryz.func54, Tryz.ntmps54
 go_wp2_with fail
 go_loopw [4, 5, 6, 7] (fun v4 v5 v6 v7 wr => ∃ (i g m : Nat) (out : List Int) (ks : List Nat), i ≤ n ∧ v7 = .int .i64 i ∧ v5 = .int .i64 g ∧ v6 = .int .i64 m ∧ m < 8 ∧ g < 2 ^ m ∧ vals (xs.take i) = some ks ∧ (∀ r, by32 0 0 (ks ++ r) = out ++ by32 g m r) ∧ out.length ≤ i ∧ RowB wr w.heap.size v4 out ∧ Below w.heap.size w wr) (fun _ _ _ v7 _ => n - (intOf v7).toNat)
 case atStart => exact ⟨0, 0, 0, [], [], by omega, rfl, rfl, rfl, by omega, by decide, rfl, fun r => rfl, by simp, RowB.nil_ _ _, Below.refl _ _⟩
 case round =>
  obtain ⟨i, g, m, out, ks, hi, rfl, rfl, rfl, hm, hg, hvals, hby, hol, ho, hbel⟩ := hrel;have HO := hide ho;have HB := hide hbel;have HV := hide hvals;have HBY := hide hby;have hwz := hbel.size;clear ho hbel hvals hby
  by_cases hit : i < n
  · have HA := hide (HAT.out i (by omega))
    obtain ⟨x, HX⟩ : ∃ x, Hid (xs.getD i 0 = x) := ⟨_, hide rfl⟩;rw [HX.out] at HA
    have hil : i < s.size := by omega
    have i1 : (i : Int) < (s.size : Int) := by omega
    have i2 : (i : Int) < (n : Int) := by omega
    go_wp2_with fail
    obtain ⟨wo, rfl⟩ : ∃ wo : World, wo = wr := ⟨_, rfl⟩
    go_loopw [8] (fun v8 wq => ∃ k : Nat, k ≤ 32 ∧ v8 = .int .i64 k ∧ (∀ j, j < k → ¬ ltr j = x) ∧ Below wo.heap.size wo wq) (fun v8 _ => 32 - (intOf v8).toNat)
    case atStart => exact ⟨0, by omega, rfl, fun j hj => by omega, Below.refl _ _⟩
    case round =>
     obtain ⟨k, hk, rfl, hno, hbq⟩ := hrel;have HNO := hide hno;have HBQ := hide hbq;have hzq := hbq.size;clear hno hbq
     by_cases hk32 : k < 32
     · have hlet := fun w' => run_letter w' k hk32
       unfold lettersS at hlet;have hat := HA.out;obtain ⟨y, HY⟩ : ∃ y, Hid (ltr k = y) := ⟨_, hide rfl⟩;rw [HY.out] at hlet
       have k1 : (k : Int) < 32 := by omega
       have hd : decide ((k : Int) < 32) = true := by simp; omega
       by_cases hyx : y = x
       · have hyb : (y != x) = false := by simp [hyx]
         go_wp2_with fail
         go_quiet (fail)
         clear hlet hat;obtain ⟨wf, HWF⟩ : ∃ wf, Hid (wr.drewN nq = wf) := ⟨_, hide rfl⟩;have HBF := hide (show Below wo.heap.size wo wf by rw [← HWF.out]; exact Go.below_drewN HBQ.out _);rw [HWF.out];have hzf := HBF.out.size;have HOF := hide (HO.out.keptB HBF.out);have HBW := hide (HB.out.trans (HBF.out.mono hwz));have hvs := hide (vals_snoc (xs := xs) (i := i) (k := k) (by rw [HSL.out]; exact hit) HV.out (by rw [HY.out, hyx, HX.out]) hk32);have h128 : g < 128 := Nat.lt_of_lt_of_le hg (Nat.pow_le_pow_right (by decide) (show m ≤ 7 by omega))
         have hk32e : ((k : Int) == 32) = false := by simp; omega
         have w1 : IntKind.i64.wrap ((g : Int) * 32) = (g : Int) * 32 := IntWalk.i64_in _ (by omega)
         have w2 : bits .or .i64 ((g : Int) * 32) (k : Int) = ((g * 32 + k : Nat) : Int) := by have := or_low g k 5 (by omega) (by omega) (by omega); simpa using this
         have w3 : bits .or .i64 ((g : Int) * 32) (k : Int) = (g : Int) * 32 + (k : Int) := by rw [w2]; omega
         have HBL := hide (fun r (h : m + 5 < 8) => by32_low g m k r h);have HBH := hide (fun r (h : 8 ≤ m + 5) => by32_high g m k r h)
         have hG : g * 32 + k < 2 ^ (m + 5) := by
          have : 2 ^ (m + 5) = 2 ^ m * 32 := by rw [Nat.pow_add]
          omega
         clear w2 HA HWF HNO HBQ hd
         by_cases hm3 : m + 5 < 8
         · have HBY2 := hide (show ∀ r, by32 0 0 ((ks ++ [k]) ++ r) = out ++ by32 (g * 32 + k) (m + 5) r from fun r => by
            rw [List.append_assoc, HBY.out, List.singleton_append, HBL.out r hm3])
           obtain ⟨G, HGG⟩ : ∃ G, Hid (g * 32 + k = G) := ⟨_, hide rfl⟩
           have w4 : (g : Int) * 32 + (k : Int) = (G : Int) := by rw [← HGG.out]; omega
           rw [w4] at w3;rw [HGG.out] at HBY2 hG;have w5 := w4;clear HBL HBH HGG HBY hg
           rcases show m = 0 ∨ m = 1 ∨ m = 2 by omega with rfl | rfl | rfl
           all_goals
            clear hm hm3
            go_wp2_with fail
            go_roundw
            case measure => simp [intOf]; omega
            case rel => first
             | exact ⟨i + 1, G, 5, out, ks ++ [k], by omega, by go_num, by first | rfl | exact congrArg _ w5, by first | rfl | go_num, by omega, hG, hvs.out, HBY2.out, by omega, HOF.out, HBW.out⟩
             | exact ⟨i + 1, G, 6, out, ks ++ [k], by omega, by go_num, by first | rfl | exact congrArg _ w5, by first | rfl | go_num, by omega, hG, hvs.out, HBY2.out, by omega, HOF.out, HBW.out⟩
             | exact ⟨i + 1, G, 7, out, ks ++ [k], by omega, by go_num, by first | rfl | exact congrArg _ w5, by first | rfl | go_num, by omega, hG, hvs.out, HBY2.out, by omega, HOF.out, HBW.out⟩
         · have HBY2 := hide (show ∀ r, by32 0 0 ((ks ++ [k]) ++ r) = (out ++ [(((g * 32 + k) / 2 ^ (m - 3) % 256 : Nat) : Int)]) ++ by32 ((g * 32 + k) % 2 ^ (m - 3)) (m - 3) r from fun r => by
            rw [List.append_assoc, HBY.out, List.singleton_append, HBH.out r (by omega), List.append_assoc]; rfl)
           have HAND := hide (and_low (g * 32 + k) (m - 3) (by have : 2 ^ (m + 5) ≤ 2 ^ 12 := Nat.pow_le_pow_right (by decide) (by omega); omega) (by omega));have hlt : (g * 32 + k) % 2 ^ (m - 3) < 2 ^ (m - 3) := Nat.mod_lt _ (Nat.pow_pos (by decide));obtain ⟨q2, eq2⟩ : ∃ q2 : Int, ((2 ^ (m - 3) - 1 : Nat) : Int) = q2 := ⟨_, rfl⟩;rw [eq2] at HAND
           have hG4 : g * 32 + k < 4096 := by omega
           obtain ⟨G, HGG⟩ : ∃ G, Hid (g * 32 + k = G) := ⟨_, hide rfl⟩
           have w4 : (g : Int) * 32 + (k : Int) = (G : Int) := by rw [← HGG.out]; omega
           rw [w4] at w3;rw [HGG.out] at HBY2 HAND hlt hG hG4;obtain ⟨G', HG'⟩ : ∃ G', Hid (G % 2 ^ (m - 3) = G') := ⟨_, hide rfl⟩;rw [HG'.out] at HBY2 HAND hlt;obtain ⟨z, HZ⟩ : ∃ z : Int, Hid (((G / 2 ^ (m - 3) % 256 : Nat) : Int) = z) := ⟨_, hide rfl⟩;rw [HZ.out] at HBY2;have HZB := hide (show Bytes [z] from fun x hx => by simp at hx; subst hx; rw [← HZ.out]; omega);clear HBL HBH HGG HBY hg HG'
           rcases show m = 3 ∨ m = 4 ∨ m = 5 ∨ m = 6 ∨ m = 7 by omega with rfl | rfl | rfl | rfl | rfl
           all_goals
            clear hm hm3
            simp at eq2
            subst eq2
            go_wp2_with (first
             | (refine wpList_lit1v rfl _ rfl _ rfl z (by rw [← HZ.out]; first | omega | (simp <;> omega)) ?_; intro g3 w5 bk3 hg3 hb3; have HL3 := hide ((RowB.of_blk (base := 0) bk3 (by omega) HZB.out (by unfold maxLen; simp)).reads); have HO3 := hide (HOF.out.keptB hb3); have HB3 := hide (HBW.out.trans (hb3.mono (by omega))); have hz3 := hb3.size; clear bk3 hg3 hb3)
             | (at_builtin; go_must (refine wpList_append_B rfl _ _ rfl w.heap.size _ _ rfl HO3.out _ _ [z] rfl HL3.out HZB.out (by simp; omega) (by omega) ?_); intro v9 w6 ho9 hg9; have HB9 := hide (HB3.out.grown hg9 (by omega) (fun k hk => (HO3.out.base_ k hk).1)); have HO9 := hide ho9; clear ho9 hg9 HB3 HO3 HL3))
            go_roundw
            case measure => simp [intOf]; omega
            case rel => first
             | exact ⟨i + 1, G', 0, out ++ [z], ks ++ [k], by omega, by go_num, congrArg _ HAND.out, by first | rfl | go_num, by omega, hlt, hvs.out, HBY2.out, by simp; omega, HO9.out, HB9.out⟩
             | exact ⟨i + 1, G', 1, out ++ [z], ks ++ [k], by omega, by go_num, congrArg _ HAND.out, by first | rfl | go_num, by omega, hlt, hvs.out, HBY2.out, by simp; omega, HO9.out, HB9.out⟩
             | exact ⟨i + 1, G', 2, out ++ [z], ks ++ [k], by omega, by go_num, congrArg _ HAND.out, by first | rfl | go_num, by omega, hlt, hvs.out, HBY2.out, by simp; omega, HO9.out, HB9.out⟩
             | exact ⟨i + 1, G', 3, out ++ [z], ks ++ [k], by omega, by go_num, congrArg _ HAND.out, by first | rfl | go_num, by omega, hlt, hvs.out, HBY2.out, by simp; omega, HO9.out, HB9.out⟩
             | exact ⟨i + 1, G', 4, out ++ [z], ks ++ [k], by omega, by go_num, congrArg _ HAND.out, by first | rfl | go_num, by omega, hlt, hvs.out, HBY2.out, by simp; omega, HO9.out, HB9.out⟩
       · have hyb : (y != x) = true := by simp [hyx]
         go_wp2_with fail
         go_quiet (fail)
         clear hlet hat
         go_wp2_with fail
         go_roundw
         case measure => simp [intOf]; omega
         case rel => exact ⟨k + 1, by omega, by go_num, fun j hj => by rcases Nat.lt_or_ge j k with h | h; exact HNO.out j h; (have : j = k := by omega); rw [this, HY.out]; exact hyx, Go.below_drewN HBQ.out _⟩
     · have e32 : k = 32 := by omega
       subst e32;have hbad := hide (show bytes32F xs = none by rw [bytes32F, vals_bad (by rw [HSL.out]; exact hit) (fun j hj => by rw [HX.out]; exact HNO.out j hj)]; rfl)
       have hd : decide (((32 : Nat) : Int) < 32) = false := by simp
       have HBW := hide (HB.out.trans (HBQ.out.mono hwz))
       go_wp2_with fail
       go_quiet (fail)
       go_wp2_with fail
       go_ret2
       exact .inr ⟨hbad.out, rfl, Go.below_drewN HBW.out _⟩
  · have e : i = n := by omega
    subst e;have HVX := hide (show vals xs = some ks by have := HV.out; rwa [List.take_of_length_le (by rw [HSL.out]; exact Nat.le_refl _)] at this);have HBX := hide (show by32 0 0 ks = out by have := HBY.out []; rw [List.append_nil, by32, List.append_nil] at this; exact this)
    have hil : ¬ i < s.size := by omega
    have i1 : ¬ (i : Int) < (s.size : Int) := by omega
    have HOB := hide HO.out.bytes;have HBS := hide (Base32_ref _ out wr HO.out.reads HOB.out (by omega));have HQB := hide (b32F_bytes out)
    by_cases hEq : b32F out = xs
    · have HR := hide (show bytes32F xs = some out by rw [bytes32F, HVX.out, Option.bind_some, HBX.out, if_pos hEq])
      rw [hEq, HSS.out] at HBS;clear HQB HVX HBX hEq HBY HV
      go_wp2_with fail
      refine HBS.out.mono ?_;rintro e w5 ⟨rfl, hb5⟩;have HO5 := hide (HO.out.keptB hb5);have HB5 := hide (HB.out.trans (hb5.mono hwz));clear hb5
      go_wp2_with fail
      go_ret2
      exact .inl ⟨_, out, HR.out, rfl, HO5.out, HB5.out⟩
    · have HR := hide (show bytes32F xs = none by rw [bytes32F, HVX.out, Option.bind_some, HBX.out, if_neg hEq])
      have hts : ¬ strOfNums (b32F out) = s := fun h => hEq (by rw [← HSS.out] at h; exact (strOf_inj HQB.out HSB.out).1 h)
      generalize strOfNums (b32F out) = t at HBS hts
      have hts2 : (t.toList == s.toList) = false := str_ne hts;clear HQB HVX HBX hEq HBY HV
      go_wp2_with fail
      refine HBS.out.mono ?_;rintro e w5 ⟨rfl, hb5⟩;have HB5 := hide (HB.out.trans (hb5.mono hwz));clear hb5
      go_wp2_with fail
      go_ret2
      exact .inr ⟨HR.out, rfl, HB5.out⟩
end Go.Proofs.YthdjgebbjogmiaaGreatDoor
