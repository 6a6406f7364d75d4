/- The reference's match: goes through all ways. Condition: the bits of 'used' are shares. -/
import Derived.Test.YtoicohcomjnnfaaMm
namespace Go.Proofs.Ytoicohcomjnnfaa
open Go Go.RowKit

theorem mmR_le16 (l : List (List Int)) (U : Nat → Bool) : mmR l U ≤ 16 := by
  obtain ⟨⟨f, _, e⟩, _⟩ := mmR_isMax l _ 0 U rfl (Nat.zero_le _)
  rw [List.drop_zero] at e
  have : sz f ≤ 16 := by
    have := List.countP_le_length (p := fun n => decide (0 ≤ f n)) (l := List.range 16)
    unfold sz; simpa using this
  omega

theorem ofInt64 (a : Nat) (ha : a < 9223372036854775808) : (BitVec.ofInt 64 (a : Int)).toNat = a := by
  rw [BitVec.ofInt_natCast, BitVec.toNat_ofNat]; exact Nat.mod_eq_of_lt (by omega)
theorem and64 (a b : Nat) (ha : a < 9223372036854775808) (hb : b < 9223372036854775808) : bits .and .i64 (a : Int) (b : Int) = ((a &&& b : Nat) : Int) := by
  have hx : a &&& b < 2 ^ 63 := Nat.and_lt_two_pow _ (by omega)
  show IntKind.i64.wrap ((BitVec.ofInt 64 (a : Int) &&& BitVec.ofInt 64 (b : Int)).toNat : Int) = _
  rw [BitVec.toNat_and, ofInt64 a ha, ofInt64 b hb, IntKind.wrap_i64]
  omega
theorem or64 (a b : Nat) (ha : a < 9223372036854775808) (hb : b < 9223372036854775808) : bits .or .i64 (a : Int) (b : Int) = ((a ||| b : Nat) : Int) := by
  have hx : a ||| b < 2 ^ 63 := Nat.or_lt_two_pow (by omega) (by omega)
  show IntKind.i64.wrap ((BitVec.ofInt 64 (a : Int) ||| BitVec.ofInt 64 (b : Int)).toNat : Int) = _
  rw [BitVec.toNat_or, ofInt64 a ha, ofInt64 b hb, IntKind.wrap_i64]
  omega
theorem bit_test (used x : Nat) (hu : used < 65536) : bits .and .i64 ((used : Int) / 2 ^ x) 1 = if used.testBit x = true then 1 else 0 := by
  have e : ((used : Int) / 2 ^ x) = ((used / 2 ^ x : Nat) : Int) := by
    rw [Int.natCast_ediv, Int.natCast_pow]; rfl
  have hle : used / 2 ^ x ≤ used := Nat.div_le_self _ _
  rw [e, show (1 : Int) = ((1 : Nat) : Int) from rfl, and64 _ _ (by omega) (by omega), Nat.testBit, Nat.shiftRight_eq_div_pow, Nat.and_comm]
  have h1 : 1 &&& used / 2 ^ x ≤ 1 := Nat.and_le_left
  generalize 1 &&& used / 2 ^ x = y at h1 ⊢
  rcases y with _ | _ | y
  · rfl
  · rfl
  · omega

theorem bit_or (used x : Nat) (hu : used < 65536) (hx : x < 16) : bits .or .i64 (used : Int) (wrap64 (2 ^ x)) = ((used ||| 2 ^ x : Nat) : Int) ∧ (used ||| 2 ^ x) < 65536 := by
  have hp : 2 ^ x < 2 ^ 16 := Nat.pow_lt_pow_right (by omega) hx
  have e : ((2 : Int) ^ x) = ((2 ^ x : Nat) : Int) := by rw [Int.natCast_pow]; rfl
  refine ⟨?_, Nat.or_lt_two_pow (n := 16) (by omega) (by omega)⟩
  rw [e]
  generalize 2 ^ x = y at hp ⊢
  rw [IntWalk.wrap64_in _ (by omega), or64 _ _ (by omega) (by omega)]
theorem bit_more (used x : Nat) : (used ||| 2 ^ x).testBit = fun y => used.testBit y || y == x := by
  funext y
  rw [Nat.testBit_or, Nat.testBit_two_pow]
  congr 1
  by_cases h : x = y
  · subst h; simp
  · have : ¬ y = x := fun e => h e.symm
    simp [h, this]

def mmStep (rs : List (List Int)) (U : Nat → Bool) (best : Nat) (n : Int) : Nat := if 0 ≤ n ∧ n < 16 ∧ U n.toNat = false then max best (1 + mmR rs (fun x => U x || x == n.toNat)) else best
theorem mmR_cons (r : List Int) (rs : List (List Int)) (U : Nat → Bool) : mmR (r :: rs) U = r.foldl (mmStep rs U) (mmR rs U) := rfl

set_option maxHeartbeats 2000000 in
theorem refmatch_any (v : Value) (l : List (List Int)) (B : Nat) (N : Nat) : ∀ (at_ used : Nat) (w : World), l.length - at_ < N → at_ ≤ l.length → used < 65536 → Rows2 w B v l →
    Calls Try.prog 45 #[v, .int .i64 at_, .int .i64 used] w fun e w' => e = .returned (.int .i64 (mmR (l.drop at_) used.testBit : Nat)) ∧ w = w' := by
  induction N with
  | zero => intro at_ used w h; omega
  | succ N ih =>
    intro at_ used w hN hat hu h
    obtain ⟨A, c, rfl, h1, h2, h3⟩ := h.open_
    unfold maxLen at h2
    have HR := hide h
    have IH := hide ih
    clear ih h
    by_cases hlt : at_ < l.length
    · obtain ⟨b, o, rfl, hbB, hcs⟩ := h3 (by omega)
      obtain ⟨u, hc, hi⟩ := hcs at_ hlt
      obtain ⟨A1, c1, rfl, g1, g2, g3⟩ := hi.open_
      unfold maxLen at g2
      have G3 := hide g3
      have HI := hide hi
      have ed : l.drop at_ = l[at_] :: l.drop (at_ + 1) := List.drop_eq_getElem_cons hlt
      rw [ed, mmR_cons]
      clear h3 hcs hi g3 ed
      have HIH := hide (IH.out (at_ + 1) used w (by omega) (by omega) hu HR.out)
      have hm16 := mmR_le16 (l.drop (at_ + 1)) used.testBit
      go_enter Try.func45, Try.ntmps45
      go_wp2_with fail
      refine HIH.out.mono ?_
      rintro e w' ⟨rfl, rfl⟩
      go_wp2_with fail
      go_loop [7, 8, 9, 24] (fun vb _ _ i => ∃ j : Nat, j ≤ l[at_].length ∧ i = .int .i64 j ∧ vb = .int .i64 ((l[at_].take j).foldl (mmStep (l.drop (at_ + 1)) used.testBit) (mmR (l.drop (at_ + 1)) used.testBit) : Nat)) (fun _ _ _ i => l[at_].length - (intOf i).toNat)
      case atStart => exact ⟨0, Nat.zero_le _, rfl, rfl⟩
      case round =>
        obtain ⟨j, hj, rfl, rfl⟩ := hrel
        by_cases hjt : j < l[at_].length
        · obtain ⟨b1, o1, rfl, hb1, hcs⟩ := G3.out (by omega)
          have hc1 := hcs j hjt
          have hst := hide (foldl_take_succ (mmStep (l.drop (at_ + 1)) used.testBit) (mmR (l.drop (at_ + 1)) used.testBit) l[at_] j hjt)
          obtain ⟨x, HX⟩ : ∃ x, Hid (l[at_][j] = x) := ⟨_, hide rfl⟩
          rw [HX.out] at hc1
          clear hcs
          by_cases hx0 : x < 0
          · go_wp2_with fail
            go_round
            case rel => exact ⟨j + 1, by omega, by go_num, by rw [hst.out, HX.out, mmStep, if_neg (by omega)]⟩
            case measure => simp [intOf]; omega
          · by_cases hx1 : 16 ≤ x
            · go_wp2_with fail
              go_round
              case rel => exact ⟨j + 1, by omega, by go_num, by rw [hst.out, HX.out, mmStep, if_neg (by omega)]⟩
              case measure => simp [intOf]; omega
            · obtain ⟨x, rfl⟩ := Int.eq_ofNat_of_zero_le (show 0 ≤ x by omega)
              have hx16 : x < 16 := by omega
              have hbt := bit_test used x hu
              rcases hbx : used.testBit x with _ | _
              · rw [hbx] at hbt
                simp only [Bool.false_eq_true, if_false] at hbt
                have HBX := hide hbx
                clear hbx
                go_wp2_with fail
                have ht := (HI.out.take j (by omega))
                refine (in_any _ (l[at_].take j) x w B ht).mono ?_
                rintro e w' ⟨rfl, rfl⟩
                clear ht
                by_cases hin : (x : Int) ∈ l[at_].take j
                · have hb : decide ((x : Int) ∈ l[at_].take j) = true := by simpa using hin
                  rw [hb]
                  clear hb
                  have hgo := hide (show mmStep (l.drop (at_ + 1)) used.testBit ((l[at_].take j).foldl (mmStep (l.drop (at_ + 1)) used.testBit) (mmR (l.drop (at_ + 1)) used.testBit)) x = (l[at_].take j).foldl (mmStep (l.drop (at_ + 1)) used.testBit) (mmR (l.drop (at_ + 1)) used.testBit) from by
                    have := (fold_max (fun n => 0 ≤ n ∧ n < 16 ∧ used.testBit n.toNat = false) (fun n => 1 + mmR (l.drop (at_ + 1)) (fun x => used.testBit x || x == n.toNat)) (l[at_].take j) (mmR (l.drop (at_ + 1)) used.testBit)).2.1 (x : Int) hin ⟨by omega, by omega, by simpa using HBX.out⟩
                    unfold mmStep
                    split
                    · exact Nat.max_eq_left this
                    · rfl)
                  clear hin
                  go_wp2_with fail
                  go_round
                  case rel => exact ⟨j + 1, by omega, by go_num, by rw [hst.out, HX.out, hgo.out]⟩
                  case measure => simp [intOf]; omega
                · have hb : decide ((x : Int) ∈ l[at_].take j) = false := by simpa using hin
                  rw [hb]
                  clear hb hin
                  go_wp2_with fail
                  obtain ⟨ho1, ho2⟩ := bit_or used x hu hx16
                  rw [ho1]
                  clear ho1
                  have hih := IH.out (at_ + 1) (used ||| 2 ^ x) w (by omega) (by omega) ho2 HR.out
                  rw [bit_more] at hih
                  have hm16' := mmR_le16 (l.drop (at_ + 1)) (fun y => used.testBit y || y == x)
                  obtain ⟨m, HM⟩ : ∃ m, Hid ((mmR (l.drop (at_ + 1)) fun y => used.testBit y || y == x) = m) := ⟨_, hide rfl⟩
                  rw [HM.out] at hih hm16'
                  have hbest := hide (show mmStep (l.drop (at_ + 1)) used.testBit ((l[at_].take j).foldl (mmStep (l.drop (at_ + 1)) used.testBit) (mmR (l.drop (at_ + 1)) used.testBit)) x = max ((l[at_].take j).foldl (mmStep (l.drop (at_ + 1)) used.testBit) (mmR (l.drop (at_ + 1)) used.testBit)) (1 + m) from by
                    unfold mmStep
                    rw [if_pos ⟨by omega, by omega, by simpa using HBX.out⟩, Int.toNat_natCast, HM.out])
                  generalize hbb : (l[at_].take j).foldl (mmStep (l.drop (at_ + 1)) used.testBit) (mmR (l.drop (at_ + 1)) used.testBit) = bb at *
                  have HBB := hide hbb
                  clear hbb
                  refine hih.mono ?_
                  rintro e w' ⟨rfl, rfl⟩
                  clear hih
                  go_wp2_with fail
                  all_goals
                    go_round
                    case rel => exact ⟨j + 1, by omega, by go_num, by rw [hst.out, HX.out, hbest.out]; congr 1; omega⟩
                    case measure => simp [intOf]; omega
              · rw [hbx] at hbt
                simp only [if_true] at hbt
                have HBX := hide hbx
                clear hbx
                go_wp2_with fail
                go_round
                case rel => exact ⟨j + 1, by omega, by go_num, by rw [hst.out, HX.out, mmStep, if_neg (by simp [HBX.out])]⟩
                case measure => simp [intOf]; omega
        · go_wp2_with fail
          go_ret
          rw [List.take_of_length_le (by omega)]
          exact ⟨rfl, rfl⟩
    · rw [List.drop_eq_nil_of_le (by omega)]
      go_enter Try.func45, Try.ntmps45
      go_wp2_with fail
      go_ret
      exact ⟨rfl, rfl⟩

set_option maxHeartbeats 400000 in
theorem refMatch_mm (v : Value) (l : List (List Int)) (w : World) (B : Nat) (h : Rows2 w B v l) :
    Calls Try.prog 23 #[v] w fun e w' => e = .returned (.int .i64 (mmR l fun _ => false : Nat)) ∧ w = w' := by
  have hc := refmatch_any v l B (l.length + 1) 0 0 w (by omega) (by omega) (by omega) h
  rw [List.drop_zero, show (Nat.testBit 0) = fun _ => false from by funext x; simp] at hc
  have HC := hide hc
  clear hc h
  go_enter Try.func23, Try.ntmps23
  go_wp2_with fail
  refine HC.out.mono ?_
  rintro e w' ⟨rfl, rfl⟩
  go_wp2_with fail
  go_ret
  exact ⟨rfl, rfl⟩
end Go.Proofs.Ytoicohcomjnnfaa
