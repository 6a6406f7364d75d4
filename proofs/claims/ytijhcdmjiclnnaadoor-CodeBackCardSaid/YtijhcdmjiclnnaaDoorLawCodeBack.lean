/- P1.1: what fits comes back; one byte less cuts the greatest off. Condition: the library's tables are laid (tied to the program's text). -/
import Derived.Test.YtijhcdmjiclnnaaDoorFrameBytes
import Derived.Test.YtijhcdmjiclnnaaDoorTied
import Derived.Test.YtijhcdmjiclnnaaDoorWakes01
import Derived.Test.YtijhcdmjiclnnaaDoorPut
import Derived.Test.YtijhcdmjiclnnaaDoorGet
import Derived.Test.YtijhcdmjiclnnaaDoorWithin
namespace Go.Proofs.YtijhcdmjiclnnaaDoor.LawCodeBack
open Go Go.RowKit Go.ChangeShapes Go.WideShapes Go.ChangeAt Go.Proofs.YtijhcdmjiclnnaaDoor
set_option linter.unusedVariables false

theorem putN_succ (N W : Nat) : putN N (W + 1) = putN (N / 256) W ++ [((N % 256 : Nat) : Int)] := by
  unfold putN
  rw [List.range_succ, List.map_append, List.map_singleton]
  congr 1
  · refine List.map_congr_left fun j hj => ?_
    have hj := List.mem_range.1 hj
    rw [show W + 1 - 1 - j = (W - 1 - j) + 1 by omega, Nat.pow_succ, Nat.mul_comm, ← Nat.div_div_eq_div_mul]
  · rw [show W + 1 - 1 - W = 0 by omega, Nat.pow_zero, Nat.div_one]
theorem getN_put : ∀ W N : Nat, getN (putN N W) = N % 256 ^ W
  | 0, N => by simp [putN, getN, Nat.mod_one]
  | W + 1, N => by
    rw [putN_succ, getN_snoc, getN_put W, Int.toNat_natCast, Nat.pow_succ, Nat.mul_comm (256 ^ W), Nat.mod_mul]
    omega
theorem getF_put (N W : Nat) (h : W ≤ 7) : getF (putN N W) = .tuple #[.int .i64 ((N % 256 ^ W : Nat) : Int), .bool true] := by
  rw [getF, putN_len, if_pos h, getN_put]
theorem putF_nat (N W : Nat) (h : W ≤ 8) : putF (N : Int) (W : Int) = putN N W := by
  unfold putF wid
  rw [show (max 0 (N : Int)).toNat = N by omega, show (min (max (W : Int) 0) 8).toNat = W by omega]

set_option maxHeartbeats 1000000 in
theorem walk (w : World) (ht : Tab w w.heap.size) (n : Int) (hn : In64 n) (width : Int) (hw : In64 width) :
    Calls Tryd.prog 7 #[.int .i64 n, .int .i64 width] w fun e w' => e = .returned (.bool true) ∧ Below w.heap.size w w' := by
  have HT := hide ht
  clear ht
  obtain ⟨hn1, hn2⟩ := hn
  obtain ⟨hw1, hw2⟩ := hw
  go_enter Tryd.func7, Tryd.ntmps7
  go_wp2_with fail
  refine (within_any width 7 w hw1 hw2 (by omega)).mono ?_
  rintro e w' ⟨rfl, rfl⟩
  obtain ⟨m, ea, hm⟩ : ∃ a : Nat, within width 7 = (a : Int) ∧ a < 7 := by
    unfold within; rw [if_neg (by omega)]
    exact ⟨(width % 7).toNat, by omega, by omega⟩
  rw [ea]
  clear ea
  go_wp2_with fail
  go_loopw [5, 6] (fun v5 v6 wr => ∃ i : Nat, i ≤ m + 1 ∧ v6 = .int .i64 i ∧ v5 = .int .i64 ((256 ^ i : Nat) : Int) ∧ w = wr) (fun _ v6 _ => m + 1 - (intOf v6).toNat)
  case atStart => exact ⟨0, by omega, rfl, rfl, rfl⟩
  case round =>
    obtain ⟨i, hi, rfl, rfl, rfl⟩ := hrel
    have h6 : 256 ^ i ≤ 256 ^ (m + 1) := Nat.pow_le_pow_right (by omega) hi
    have h7 : 256 ^ (m + 1) ≤ 256 ^ 7 := Nat.pow_le_pow_right (by omega) (by omega)
    have h8 : (256 : Nat) ^ 7 = 72057594037927936 := by decide
    by_cases hit : i < m + 1
    · have h5 : 256 ^ i ≤ 281474976710656 := by
        have : 256 ^ i ≤ 256 ^ 6 := Nat.pow_le_pow_right (by omega) (by omega)
        have e6 : (256 : Nat) ^ 6 = 281474976710656 := by decide
        omega
      have HP := hide (show 256 ^ (i + 1) = 256 ^ i * 256 from Nat.pow_succ _ _)
      clear h6 h7 h8
      obtain ⟨p, HPP⟩ : ∃ p, Hid (256 ^ i = p) := ⟨_, hide rfl⟩
      rw [HPP.out] at HP h5
      rw [HPP.out]
      have i1 : (i : Int) < 1 + (m : Int) := by omega
      have w1 : IntKind.i64.wrap ((p : Int) * 256) = (p : Int) * 256 := IntWalk.i64_in _ (by omega)
      go_wp2_with fail
      go_roundw
      case measure => simp [intOf] <;> omega
      case rel => exact ⟨i + 1, by omega, by go_num, by rw [HP.out]; refine congrArg (Value.int .i64) ?_; omega, by first | rfl | trivial⟩
    · have e : i = m + 1 := by omega
      subst e
      have i1 : ¬ ((m + 1 : Nat) : Int) < 1 + (m : Int) := by omega
      have HPQ := hide (show 256 ^ (m + 1) = 256 ^ m * 256 from Nat.pow_succ _ _)
      have hq0 : 0 < 256 ^ m := Nat.pow_pos (by decide)
      have HG1 := hide (fun N => getF_put N (m + 1) (by omega))
      have HG2 := hide (fun N => getF_put N m (by omega))
      have HU1 := hide (fun N => putF_nat N (m + 1) (by omega))
      have HU2 := hide (fun N => putF_nat N m (by omega))
      obtain ⟨p, HPP⟩ : ∃ p, Hid (256 ^ (m + 1) = p) := ⟨_, hide rfl⟩
      obtain ⟨q, HQQ⟩ : ∃ q, Hid (256 ^ m = q) := ⟨_, hide rfl⟩
      simp only [HPP.out] at HPQ HG1 h7
      simp only [HQQ.out] at HPQ HG2 hq0
      rw [HPP.out]
      clear h6 hi hit
      have hpq1 : p ≤ q * 256 := by have := HPQ.out; omega
      have hpq2 : q * 256 ≤ p := by have := HPQ.out; omega
      have hp7 : p ≤ 72057594037927936 := by omega
      clear h7 h8
      have m1 : ((m + 1 : Nat) : Int) = 1 + (m : Int) := by omega
      have hp0 : 0 < p := by omega
      have M1 := hide m1
      clear m1
      go_wp2_with fail
      refine (within_any n p w hn1 hn2 (by omega)).mono ?_
      rintro e w' ⟨rfl, rfl⟩
      obtain ⟨k, ek, hk⟩ : ∃ a : Nat, within n p = (a : Int) ∧ a < p := by
        unfold within; rw [if_neg (by omega)]
        have h1 := Int.emod_nonneg n (show (p : Int) ≠ 0 by omega)
        have h2 := Int.emod_lt_of_pos n (show (0 : Int) < p by omega)
        exact ⟨(n % p).toNat, by omega, by omega⟩
      rw [ek]
      clear ek
      have P1 := hide (fun w' => Put_any (k : Int) ((m + 1 : Nat) : Int) w' ⟨by omega, by omega⟩ ⟨by omega, by omega⟩)
      have P2 := hide (fun w' => Put_any (k : Int) (m : Int) w' ⟨by omega, by omega⟩ ⟨by omega, by omega⟩)
      rw [HU1.out] at P1
      rw [HU2.out] at P2
      have HL1 := hide (putN_len k (m + 1))
      have HB1 := hide (putN_bytes k (m + 1))
      have HB2 := hide (putN_bytes k m)
      have G1 := hide (HG1.out k)
      have G2 := hide (HG2.out k)
      rw [Nat.mod_eq_of_lt hk] at G1
      obtain ⟨X1, HX1⟩ : ∃ x, Hid (putN k (m + 1) = x) := ⟨_, hide rfl⟩
      obtain ⟨X2, HX2⟩ : ∃ x, Hid (putN k m = x) := ⟨_, hide rfl⟩
      rw [HX1.out] at P1 HL1 HB1 G1
      rw [HX2.out] at P2 HB2 G2
      clear HX1 HX2 HU1 HU2 HG1 HG2
      rw [M1.out] at P1
      go_wp2_with fail
      refine (P1.out w).mono ?_
      rintro e w1 ⟨v1, rfl, ho1, hb1⟩
      have HBe1 := hide hb1
      have hz1 := hb1.size
      have GG1 := hide (Get_any v1 X1 w1 ho1.reads HB1.out)
      rw [G1.out] at GG1
      clear ho1 hb1
      go_wp2_with fail
      refine GG1.out.mono ?_
      rintro e w' ⟨rfl, rfl⟩
      have w2 : IntKind.i64.wrap (1 + (m : Int) - 1) = (m : Int) := by rw [show (1 + (m : Int) - 1) = (m : Int) by omega]; exact IntWalk.i64_in _ (by omega)
      go_wp2_with fail
      refine (P2.out w1).mono ?_
      rintro e w2 ⟨v2, rfl, ho2, hb2⟩
      have HBe2 := hide (HBe1.out.trans (hb2.mono hz1))
      have hz2 := hb2.size
      have hmq := Nat.mod_lt k hq0
      have hmod : (k : Int).tmod (q : Int) = ((k % q : Nat) : Int) := by rw [Int.tmod_eq_emod_of_nonneg (by omega)]; omega
      have hmod2 : (k : Int) % (q : Int) = ((k % q : Nat) : Int) := by omega
      have hmod3 : k % q = k % q := rfl
      have GG2 := hide (Get_any v2 X2 w2 ho2.reads HB2.out)
      rw [G2.out] at GG2
      obtain ⟨r, HR⟩ : ∃ r, Hid (k % q = r) := ⟨_, hide rfl⟩
      rw [HR.out] at GG2 hmod hmod2 hmq
      clear ho2 hb2 hmod3
      go_wp2_with fail
      refine GG2.out.mono ?_
      rintro e w' ⟨rfl, rfl⟩
      have hdiv : (p : Int).tdiv 256 = (q : Int) := by rw [Int.tdiv_eq_ediv_of_nonneg (by omega)]; omega
      have hdiv2 : (p : Int) / 256 = (q : Int) := by omega
      have hqn : ¬ (q : Int) = 0 := by omega
      have hqn2 : ¬ q = 0 := by omega
      have hkk : ((k : Int) == (k : Int)) = true := by simp
      have hrr : ((r : Int) == (r : Int)) = true := by simp
      go_wp2_with fail
      refine (P1.out w2).mono ?_
      rintro e w3 ⟨v3, rfl, ho3, hb3⟩
      have HBe3 := hide (HBe2.out.trans (hb3.mono (by omega)))
      have hz3 := hb3.size
      obtain ⟨A3, c3, rfl⟩ := own_shape ho3
      rw [HL1.out]
      have hl1 : (((m + 1 : Nat) : Int) == 1 + (m : Int)) = true := by rw [M1.out]; simp
      have hl2 : ((m : Int) + 1 == 1 + (m : Int)) = true := by rw [Int.add_comm]; simp
      clear ho3 hb3
      go_wp2_with fail
      refine (wakes01 w3 ((HT.out.below HBe3.out (Nat.le_refl _)).more (by omega))).mono ?_
      rintro e w4 ⟨rfl, hb4⟩
      have HB4 := hide (HBe3.out.trans (hb4.mono (by omega)))
      clear hb4
      go_wp2_with fail
      go_ret
      exact ⟨rfl, HB4.out⟩

set_option maxRecDepth 100000 in
theorem lifted (os : Os) (started : os.Started) (H : Type) (enc : TypeId × Value → H) :
    ReturnsInHanded {} Tryd.checked os 7 .any (fun w args => (Rows.codeBackSpec.pre enc Tryd.prog Tryd.f7 [] false w args ∧ laidMetH Tryd.prog laidD w) ∧ sizedMet enc Tryd.prog Tryd.f7 (OpenSpec.ofChange Rows.codeBackSpec) false w args)
      (Rows.codeBackSpec.post enc Tryd.prog Tryd.f7 false true false false) := by
  refine returnsInHanded_of_change_and (C := Tryd.checked) (X := fun w _ => laidMetH Tryd.prog laidD w) (fun _ _ _ hh h => h.of_heap hh) own started (by kernel_rfl) Tryd.func7
    (ChangeSpec.witness_shaped (enc := enc) (C := Tryd.checked) (os := os) (X := fun w _ => laidMetH Tryd.prog laidD w) false (World.doorLaid Tryd.prog doorSteps os) #[.int .i64 0, .int .i64 0] 8 rfl (World.shaped_of_RefB (by kernel_rfl) (by kernel_rfl)) (by kernel_rfl) (by kernel_rfl) (by kernel_rfl) (door_met os _)) ?_
  intro W base args ds gs before hval0 hW _ _ hL _
  have hT := tab_of hL
  have hval : ∀ (j : Nat) t v, Tryd.f7.params[j]? = some t → args[j]? = some v → Value.okWide Tryd.prog W .any base t v := hval0
  have hW' := hW
  obtain ⟨p, q, hA0, hV, rfl, hfz, hnd⟩ := hW
  have hA : DataW.TrodAll enc Tryd.prog W 0 (fun _ => true) true Tryd.f7.params.toList args.toList ds p := hA0
  rw [Tryd.params7] at hA hval
  obtain ⟨v0, vs0, d0, ds0, p0, q0, hargs, rfl, rfl, h0, r0⟩ := trodAll_cons hA
  obtain ⟨v1, vs1, d1, ds1, p1, q1, rfl, rfl, rfl, h1, r1⟩ := trodAll_cons r0
  obtain ⟨rfl, rfl, rfl⟩ := trodAll_nil r1
  obtain rfl : args = #[v0, v1] := by cases args; simp_all
  obtain ⟨rfl, rfl⟩ := trodVars_none hV
  obtain ⟨a0, rfl, rfl, rfl, wf0⟩ := open_int Tryd.underlying3 (hval 0 3 v0 rfl rfl) h0
  obtain ⟨a1, rfl, rfl, rfl, wf1⟩ := open_int Tryd.underlying3 (hval 1 3 v1 rfl rfl) h1
  clear hA0 hval0
  refine (walk W hT a0 (in64_wf wf0) a1 (in64_wf wf1)).mono fun e W' ⟨he, bel⟩ => ?_
  subst he
  exact ⟨_, rfl, _, _, _, [], _, [], hW', trodAll_mk1 (shut_bool Tryd.underlying4 _), (trodAll_cons_mk (shut_int Tryd.underlying3 wf0) (trodAll_cons_mk (shut_int Tryd.underlying3 wf1) trodAll_mk0)), rfl, bel.frame _, fun h => by cases h⟩

theorem over : Rows.codeBackRow.holds Tryd.pinned (OpenSpec.ofChange Rows.codeBackSpec) :=
  OpenClaim.holds_of_wide 7 Tryd.f7 rfl rfl rfl rfl rfl rfl rfl ⟨rfl, rfl, rfl, rfl, rfl⟩ rfl rfl rfl rfl rfl (by kernel_rfl) Tryd.func7 (by kernel_rfl)
    (of_decide_eq_true (by kernel_rfl)) (by unfold Func.isWrapper; rw [if_neg (of_decide_eq_false (by kernel_rfl))]; exact ⟨rfl, rfl⟩)
    (fun os started H enc _ => lifted os started H enc)

theorem proved : Rows.CodeBackCardSaid :=
  Claim7.holds_tied_plain_at .later [] Rows.codeBackCard.laidKinds true Rows.codeBackCard.stood.harness false
    over (fun _ h => by cases h) (by kernel_rfl) (fun _ h => by cases h) codeBack_row_tie rfl ⟨rfl, rfl⟩ (by kernel_rfl) rfl
    (fun f fn hf hfn => by
      obtain rfl : f = 7 := Option.some.inj ((show Tryd.prog.funcNamed "aumbry/aumbrylaw01.CodeBack" = some 7 by kernel_rfl).symm.trans hf) |>.symm
      obtain rfl : fn = Tryd.f7 := (Option.some.inj (Tryd.func7.symm.trans hfn)).symm
      exact ⟨by kernel_rfl, fun j t ht => by
        have ht' : Tryd.f7.params[j]? = some t := ht
        rw [Tryd.params7] at ht'
        have hm : t ∈ [3, 3] := by simpa using Array.mem_of_getElem? ht'
        have hall : ([3, 3].all fun u => !Tryd.prog.wantsStandIn u) = true := by kernel_rfl
        exact (show Tryd.prog.wantsStandIn t = false by simpa using List.all_eq_true.1 hall t hm)⟩)
    (by kernel_rfl)
end Go.Proofs.YtijhcdmjiclnnaaDoor.LawCodeBack
