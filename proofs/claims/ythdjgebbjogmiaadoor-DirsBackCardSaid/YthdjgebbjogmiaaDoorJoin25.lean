/- code.size, code.TakeNet: the row at the beginning of bytes. Condition: at most 2^40 bytes.
code.TakeNets: just so many rows. Condition: at most a million rows; at most 2^40 bytes. -/
import Derived.Test.YthdjgebbjogmiaaDoorJoin4
import Derived.Test.YthdjgebbjogmiaaDoorJoin3
set_option linter.unusedVariables false
set_option linter.unusedSimpArgs false
namespace Go.Proofs.YthdjgebbjogmiaaDoor
open Go Go.RowKit
set_option maxRecDepth 100000

theorem szF_stop (b : List Int) (n d : Nat) (h : b = [] ∨ ¬ isDg (b.getD 0 0) ∨ 16384 < n) : szF n d b = (n, d) := by
 cases b with
 | nil => rfl
 | cons c cs =>
  rw [szF, if_neg]
  rintro ⟨h1, h2⟩
  rcases h with h | h | h
  · cases h
  · exact h h1
  · omega
theorem szF_go (b : List Int) (n d : Nat) (hl : 0 < b.length) (h1 : isDg (b.getD 0 0)) (h2 : n ≤ 16384) : szF n d b = szF (10 * n + (b.getD 0 0 - 48).toNat) (d + 1) (b.drop 1) := by
 cases b with
 | nil => simp at hl
 | cons c cs => rw [szF, if_pos ⟨h1, h2⟩]; rfl
theorem drop_getD (xs : List Int) (d : Nat) : (xs.drop d).getD 0 0 = xs.getD d 0 := by
 rw [List.getD_eq_getElem?_getD, List.getElem?_drop, Nat.add_zero, List.getD_eq_getElem?_getD]

set_option maxHeartbeats 1000000 in
theorem size_any (v : Value) (xs : List Int) (w : World) (hv : Bs w w.heap.size v xs) (hb : Bytes xs) :
 Calls Tryd.prog 69 #[v] w fun e w' => e = .returned (.tuple #[.int .i64 ((szF 0 0 xs).1 : Int), .int .i64 ((szF 0 0 xs).2 : Int)]) ∧ w = w' := by
 have HBX := hide hb
 obtain ⟨A, c, rfl, h1, h2, h3⟩ := hv.open_
 unfold maxLen at h2
 have H3 := hide h3
 obtain ⟨l, HL⟩ : ∃ n, Hid (xs.length = n) := ⟨_, hide rfl⟩
 rw [HL.out] at h1 H3
 rw [HL.out]
 obtain ⟨R, HR⟩ : ∃ r, Hid (szF 0 0 xs = r) := ⟨_, hide rfl⟩
 rw [HR.out]
 obtain ⟨rn, rd⟩ := R
 have HR0 := hide (show szF 0 0 (xs.drop 0) = (rn, rd) from HR.out)
 clear hv hb h3 HR
 go_enter Tryd.func69, Tryd.ntmps69
 go_wp2_with fail
 go_loopw [2, 3] (fun v2 v3 wr => ∃ n d : Nat, d ≤ l ∧ n ≤ 163849 ∧ v2 = .int .i64 n ∧ v3 = .int .i64 d ∧ szF n d (xs.drop d) = (rn, rd) ∧ w = wr) (fun _ v3 _ => l - (intOf v3).toNat)
 case atStart => exact ⟨0, 0, by omega, by omega, rfl, rfl, HR0.out, rfl⟩
 case round =>
  obtain ⟨n, d, hd, hn, rfl, rfl, hs, rfl⟩ := hrel
  have HS := hide hs
  clear hs
  by_cases hdl : d < l
  · obtain ⟨b, o, rfl, hbb, hc⟩ := H3.out (by omega)
    obtain ⟨x, HX⟩ : ∃ x, Hid (xs.getD d 0 = x) := ⟨_, hide rfl⟩
    have c1 := hc d x hdl HX.out
    have hx := HBX.out.at_ d
    rw [HX.out] at hx
    obtain ⟨hx0, hx1⟩ := hx
    have d0 : (0 : Int) ≤ (d : Int) := by omega
    have d1 : (d : Int) < (l : Int) := by omega
    clear hc
    by_cases hg1 : 48 ≤ x
    · by_cases hg2 : x ≤ 57
      · by_cases hn2 : n ≤ 16384
        · have n2 : (n : Int) ≤ 16384 := by omega
          have HN := hide (show szF (10 * n + (x - 48).toNat) (d + 1) (xs.drop (d + 1)) = (rn, rd) by
           have := szF_go (xs.drop d) n d (by rw [List.length_drop, HL.out]; omega) (by rw [drop_getD, HX.out]; exact ⟨hg1, hg2⟩) hn2
           rw [HS.out, drop_getD, HX.out, List.drop_drop] at this
           exact this.symm)
          go_wp2_with fail
          go_roundw
          case measure => simp [intOf]; omega
          case rel => exact ⟨10 * n + (x - 48).toNat, d + 1, by omega, by omega, by refine congrArg (Value.int .i64) ?_; omega, by go_num, HN.out, by first | rfl | trivial⟩
        · have n2 : ¬ (n : Int) ≤ 16384 := by omega
          have e := (szF_stop (xs.drop d) n d (.inr (.inr (by omega)))).symm.trans HS.out
          injection e with e1 e2
          subst e1 e2
          go_wp2_with fail
          go_ret2
          exact ⟨rfl, rfl⟩
      · have e := (szF_stop (xs.drop d) n d (.inr (.inl (by rw [drop_getD, HX.out]; unfold isDg; omega)))).symm.trans HS.out
        injection e with e1 e2
        subst e1 e2
        go_wp2_with fail
        go_ret2
        exact ⟨rfl, rfl⟩
    · have e := (szF_stop (xs.drop d) n d (.inr (.inl (by rw [drop_getD, HX.out]; unfold isDg; omega)))).symm.trans HS.out
      injection e with e1 e2
      subst e1 e2
      go_wp2_with fail
      go_ret2
      exact ⟨rfl, rfl⟩
  · have e := (szF_stop (xs.drop d) n d (.inl (List.drop_of_length_le (by rw [HL.out]; omega)))).symm.trans HS.out
    injection e with e1 e2
    subst e1 e2
    have d1 : ¬ (d : Int) < (l : Int) := by omega
    go_wp2_with fail
    go_ret2
    exact ⟨rfl, rfl⟩

/-- What TakeNet answers. -/
def TakePost (w : World) (xs : List Int) (e : Ending) (w' : World) : Prop :=
 (∃ v1 v2 x r, takeF xs = some (x, r) ∧ e = .returned (.tuple #[v1, v2, .bool true]) ∧ RowB w' w.heap.size v1 x ∧ RowB w' w.heap.size v2 r ∧ Below w.heap.size w w') ∨
 (takeF xs = none ∧ e = .returned (.tuple #[.slice none 0 0, .slice none 0 0, .bool false]) ∧ w = w')

set_option maxHeartbeats 4000000 in
theorem TakeNet_any (v : Value) (xs : List Int) (w : World) (hv : Bs w w.heap.size v xs) (hb : Bytes xs) (hn : xs.length ≤ 1099511627776) :
 Calls Tryd.prog 52 #[v] w (TakePost w xs) := by
 have HBX := hide hb
 have HSZ := hide (size_any v xs w hv hb)
 have HV := hide hv
 obtain ⟨A, c, rfl, h1, h2, h3⟩ := hv.open_
 unfold maxLen at h2
 have H3 := hide h3
 obtain ⟨l, HL⟩ : ∃ n, Hid (xs.length = n) := ⟨_, hide rfl⟩
 have HTF := hide (show takeF xs = (if (szF 0 0 xs).2 = 0 ∨ (1 < (szF 0 0 xs).2 ∧ xs.getD 0 0 = 48) ∨ 16384 < (szF 0 0 xs).1 then none
  else if l < (szF 0 0 xs).2 + (szF 0 0 xs).1 + 2 ∨ xs.getD (szF 0 0 xs).2 0 ≠ 58 ∨ xs.getD ((szF 0 0 xs).2 + 1 + (szF 0 0 xs).1) 0 ≠ 44 then none
  else some ((xs.drop ((szF 0 0 xs).2 + 1)).take (szF 0 0 xs).1, xs.drop ((szF 0 0 xs).2 + (szF 0 0 xs).1 + 2))) by rw [← HL.out]; rfl)
 rw [HL.out] at h1 H3 hn HV HSZ
 rw [HL.out]
 obtain ⟨⟨N, D⟩, HR⟩ : ∃ r, Hid (szF 0 0 xs = r) := ⟨_, hide rfl⟩
 rw [HR.out] at HTF HSZ
 simp only at HTF HSZ
 have hsb : N ≤ 163849 ∧ D ≤ l := by
  have key : ∀ (b : List Int) (n d : Nat), n ≤ 163849 → (∀ x ∈ b, x < 256) → (szF n d b).1 ≤ 163849 ∧ (szF n d b).2 ≤ d + b.length := by
   intro b
   induction b with
   | nil => intro n d h _; exact ⟨h, Nat.le_refl _⟩
   | cons c cs ih =>
    intro n d h hbb
    rw [szF]
    split
    · rename_i hcc
      unfold isDg at hcc
      have := ih (10 * n + (c - 48).toNat) (d + 1) (by omega) (fun x hx => hbb x (List.mem_cons_of_mem _ hx))
      refine ⟨this.1, ?_⟩
      rw [List.length_cons]; omega
    · exact ⟨h, by simp⟩
  have := key xs 0 0 (by omega) (fun x hx => (HBX.out x hx).2)
  rw [HR.out, HL.out] at this
  simpa using this
 obtain ⟨hN, hD⟩ := hsb
 clear hv hb h3 HR
 go_enter Tryd.func52, Tryd.ntmps52
 go_wp2_with fail
 refine HSZ.out.mono ?_
 rintro e w' ⟨rfl, rfl⟩
 by_cases hD0 : D = 0
 · have HNO := hide (show takeF xs = none by rw [HTF.out, if_pos (.inl hD0)])
   subst hD0
   go_wp2_with fail
   go_ret3
   exact .inr ⟨HNO.out, rfl, rfl⟩
 obtain ⟨b, o, rfl, hbb, hc⟩ := H3.out (by omega)
 have HC := hide hc
 clear hc
 have dd0 : ¬ (D : Int) = 0 := by omega
 have dd1 : ((D : Int) == 0) = false := beq_eq_false_iff_ne.2 dd0
 obtain ⟨x0, HX0⟩ : ∃ x, Hid (xs.getD 0 0 = x) := ⟨_, hide rfl⟩
 have c0 := HC.out 0 x0 (by omega) HX0.out
 rw [Nat.add_zero] at c0
 have l0 : (0 : Int) < (l : Int) := by omega
 rw [HX0.out] at HTF
 by_cases hlead : 1 < D ∧ x0 = 48
 · have HNO := hide (show takeF xs = none by rw [HTF.out, if_pos (.inr (.inl hlead))])
   obtain ⟨hl1, rfl⟩ := hlead
   have g1 : (1 : Int) < (D : Int) := by omega
   go_wp2_with fail
   go_ret3
   exact .inr ⟨HNO.out, rfl, rfl⟩
 by_cases hbig : 16384 < N
 · have HNO := hide (show takeF xs = none by rw [HTF.out, if_pos (.inr (.inr hbig))])
   have g2 : (16384 : Int) < (N : Int) := by omega
   by_cases hd1 : 1 < D
   · have g1 : (1 : Int) < (D : Int) := by omega
     have g3 : (x0 == 48) = false := beq_eq_false_iff_ne.2 fun e => hlead ⟨hd1, e⟩
     go_wp2_with fail
     go_ret3
     exact .inr ⟨HNO.out, rfl, rfl⟩
   · have g1 : ¬ (1 : Int) < (D : Int) := by omega
     go_wp2_with fail
     go_ret3
     exact .inr ⟨HNO.out, rfl, rfl⟩
 have g2 : ¬ (16384 : Int) < (N : Int) := by omega
 have hnot : ¬ (D = 0 ∨ (1 < D ∧ x0 = 48) ∨ 16384 < N) := by rintro (h | h | h); exact hD0 h; exact hlead h; exact hbig h
 have HTG := hide HTF.out
 rw [if_neg hnot] at HTG
 clear hnot HTF
 obtain ⟨lead, hlead2⟩ : ∃ p : Bool, (1 < D ∧ (x0 == 48) = false ∧ p = true) ∨ (¬ 1 < D ∧ p = false) := by
  by_cases hd1 : 1 < D
  · exact ⟨true, .inl ⟨hd1, beq_eq_false_iff_ne.2 fun e => hlead ⟨hd1, e⟩, rfl⟩⟩
  · exact ⟨false, .inr ⟨hd1, rfl⟩⟩
 clear hlead
 rcases hlead2 with ⟨hd1, g3, _⟩ | ⟨hd1, _⟩
 all_goals
  have g1 := hd1
  by_cases h4 : l < D + N + 2
  · have HNO := hide (show takeF xs = none by rw [HTG.out, if_pos (.inl h4)])
    have g4 : (l : Int) < (D : Int) + (N : Int) + 2 := by omega
    go_wp2_with fail
    go_ret3
    exact .inr ⟨HNO.out, rfl, rfl⟩
  have g4 : ¬ (l : Int) < (D : Int) + (N : Int) + 2 := by omega
  obtain ⟨x1, HX1⟩ : ∃ x, Hid (xs.getD D 0 = x) := ⟨_, hide rfl⟩
  obtain ⟨x2, HX2⟩ : ∃ x, Hid (xs.getD (D + 1 + N) 0 = x) := ⟨_, hide rfl⟩
  have cc1 := HC.out D x1 (by omega) HX1.out
  have cc2 := HC.out (D + 1 + N) x2 (by omega) HX2.out
  have l1 : (D : Int) < (l : Int) := by omega
  have l2 : (D : Int) + 1 + (N : Int) < (l : Int) := by omega
  have d0 : (0 : Int) ≤ (D : Int) := by omega
  have d2 : (0 : Int) ≤ (D : Int) + 1 + (N : Int) := by omega
  rw [HX1.out, HX2.out] at HTG
  by_cases h5 : x1 = 58
  case neg =>
   have HNO := hide (show takeF xs = none by rw [HTG.out, if_pos (.inr (.inl h5))])
   have g5 : (x1 != 58) = true := by simp [h5]
   go_wp2_with fail
   go_ret3
   exact .inr ⟨HNO.out, rfl, rfl⟩
  by_cases h6 : x2 = 44
  case neg =>
   have HNO := hide (show takeF xs = none by rw [HTG.out, if_pos (.inr (.inr h6))])
   have g5 : (x1 != 58) = false := by simp [h5]
   have g6 : (x2 != 44) = true := by simp [h6]
   go_wp2_with fail
   go_ret3
   exact .inr ⟨HNO.out, rfl, rfl⟩
  have HYES := hide (show takeF xs = some ((xs.drop (D + 1)).take N, xs.drop (D + N + 2)) by rw [HTG.out, if_neg (by rintro (h | h | h); exact h4 h; exact h h5; exact h h6)])
  have g5 : (x1 != 58) = false := by simp [h5]
  have g6 : (x2 != 44) = false := by simp [h6]
  clear HTG
  have hd16 : decide ((16384 : Int) < (N : Int)) = false := decide_eq_false g2
  have hdl : decide ((l : Int) < (D : Int) + (N : Int) + 2) = false := decide_eq_false g4
  have HS1 := hide (show Bs w w.heap.size (.slice (some ⟨b, o + (D + 1), none⟩) (D + 1 + N - (D + 1)) (c - (D + 1))) ((xs.drop (D + 1)).take N) by
   rw [show D + 1 + N - (D + 1) = N by omega]
   exact (Bs.drop (by rw [HL.out]; exact HV.out) (D + 1) (by rw [HL.out]; omega)).take N (by rw [List.length_drop, HL.out]; omega))
  have HS2 := hide (show Bs w w.heap.size (.slice (if c = D + N + 2 then some ⟨b, o, none⟩ else some ⟨b, o + (D + N + 2), none⟩) (l - (D + N + 2)) (c - (D + N + 2))) (xs.drop (D + N + 2)) by
   split
   · have e : xs.drop (D + N + 2) = [] := List.drop_of_length_le (by rw [HL.out]; omega)
     rw [e, show l - (D + N + 2) = 0 by omega]
     exact ⟨_, _, rfl, Nat.zero_le _, by unfold maxLen; omega, rfl, fun h => absurd h (by simp)⟩
   have := Bs.drop (by rw [HL.out]; exact HV.out) (D + N + 2) (by rw [HL.out]; omega)
   rw [HL.out] at this
   exact this)
  have HB1 := hide (show Bytes ((xs.drop (D + 1)).take N) from fun x hx => HBX.out x (List.mem_of_mem_drop (List.mem_of_mem_take hx)))
  have HB2 := hide (show Bytes (xs.drop (D + N + 2)) from fun x hx => HBX.out x (List.mem_of_mem_drop hx))
  have HL1 := hide (show ((xs.drop (D + 1)).take N).length ≤ l by rw [List.length_take, List.length_drop, HL.out]; omega)
  have HL2 := hide (show (xs.drop (D + N + 2)).length ≤ l by rw [List.length_drop, HL.out]; omega)
  obtain ⟨y1, HY1⟩ : ∃ y, Hid ((xs.drop (D + 1)).take N = y) := ⟨_, hide rfl⟩
  obtain ⟨y2, HY2⟩ : ∃ y, Hid (xs.drop (D + N + 2) = y) := ⟨_, hide rfl⟩
  rw [HY1.out] at HYES HS1 HB1 HL1
  rw [HY2.out] at HYES HS2 HB2 HL2
  clear HY1 HY2 HX1 HX2
  go_wp2_with (first
   | (at_builtin; refine wpList_append_B rfl _ _ rfl w.heap.size _ [] rfl (RowB.nil_ _ _) _ _ y1 rfl HS1.out HB1.out (by have := HL1.out; simp; omega) (Nat.le_refl _) ?_; intro v5 w5 ho5 hg5; have HO5 := hide ho5; have HG5 := hide ((Below.refl w.heap.size w).grown hg5 (Nat.le_refl _) (fun k hk => absurd (show (none : Option Nat) = some k from hk) (by simp))); have hz5 := hg5.size; have HS5 := hide (HS2.out.below HG5.out (Nat.le_refl _)); clear ho5 hg5 HS1)
   | (at_builtin; go_must (refine wpList_append_B rfl _ _ rfl w.heap.size _ [] rfl (RowB.nil_ _ _) _ _ y2 rfl HS5.out HB2.out (by have := HL2.out; simp; omega) hz5 ?_); intro v6 w6 ho6 hg6; have HO6 := hide ho6; have HB6 := hide (HG5.out.grown hg6 hz5 (fun k hk => absurd (show (none : Option Nat) = some k from hk) (by simp))); have HO56 := hide (HO5.out.kept hg6 (by by_cases h : v5.ownBlock = none; exact .inl h; exact .inr h)); clear ho6 hg6 HO5 HS5))
  all_goals
   go_ret3
   exact .inl ⟨_, _, y1, y2, HYES.out, rfl, HO56.out, HO6.out, HB6.out⟩
end Go.Proofs.YthdjgebbjogmiaaDoor

namespace Go.Proofs.YthdjgebbjogmiaaDoor
open Go Go.RowKit
set_option maxRecDepth 100000

def takesI (n : Int) (b : List Int) : Option (List (List Int)) := if n < 0 then none else takesF n.toNat b
/-- What TakeNets answers. -/
def TakesPost (w : World) (n : Int) (xs : List Int) (e : Ending) (w' : World) : Prop :=
 (∃ v l, takesI n xs = some l ∧ e = .returned (.tuple #[v, .bool true]) ∧ OwnRows w' w.heap.size v l ∧ Below w.heap.size w w') ∨
 (takesI n xs = none ∧ e = .returned (.tuple #[.slice none 0 0, .bool false]) ∧ Below w.heap.size w w')

theorem take_len {b x r : List Int} (h : takeF b = some (x, r)) : r.length ≤ b.length ∧ x.length ≤ b.length := by
 have := (take_sound b x r h).1
 rw [this, List.length_append, netF]
 simp; omega

set_option maxHeartbeats 2000000 in
theorem TakeNets_any (v : Value) (xs : List Int) (k : Int) (w : World) (hv : Bs w w.heap.size v xs) (hb : Bytes xs) (hn : xs.length ≤ 1099511627776) (hk : -9223372036854775808 ≤ k ∧ k ≤ 1000000) :
 Calls Tryd.prog 70 #[v, .int .i64 k] w (TakesPost w k xs) := by
 have HV := hide hv
 have HBX := hide hb
 obtain ⟨A, c, rfl, h1, h2, h3⟩ := hv.open_
 obtain ⟨hk1, hk2⟩ := hk
 clear h1 h2 h3 hv hb
 go_enter Tryd.func70, Tryd.ntmps70
 by_cases hneg : k < 0
 · have HNO := hide (show takesI k xs = none by rw [takesI, if_pos hneg])
   go_wp2_with fail
   go_ret2
   exact .inr ⟨HNO.out, rfl, Below.refl _ _⟩
 obtain ⟨n, rfl⟩ := Int.eq_ofNat_of_zero_le (show 0 ≤ k by omega)
 have HI := hide (show takesI (n : Int) xs = takesF n xs by rw [takesI, if_neg (by omega)]; rfl)
 have hn6 : n ≤ 1000000 := by omega
 obtain ⟨R, HR⟩ : ∃ r, Hid (takesI (n : Int) xs = r) := ⟨_, hide rfl⟩
 have HR0 := hide (show (takesF (n - 0) xs).map ([] ++ ·) = R by
  rw [← HR.out, HI.out, Nat.sub_zero]
  cases takesF n xs <;> rfl)
 clear HI hk1 hk2
 go_wp2_with fail
 go_loopw [0, 4, 12] (fun v0 v4 v12 wr => ∃ (i : Nat) (rest : List Int) (items : List (List Int)), i ≤ n ∧ v12 = .int .i64 i ∧ Bs wr wr.heap.size v0 rest ∧ Bytes rest ∧ rest.length ≤ 1099511627776 ∧ OwnRows wr w.heap.size v4 items ∧ items.length = i ∧ (takesF (n - i) rest).map (items ++ ·) = R ∧ Below w.heap.size w wr) (fun _ _ v12 _ => n - (intOf v12).toNat)
 case atStart => exact ⟨0, xs, [], by omega, rfl, HV.out, HBX.out, hn, OwnRows.nil_ _ _, rfl, HR0.out, Below.refl _ _⟩
 case round =>
  obtain ⟨i, rest, items, hi, rfl, hbs, hby, hrl, ho, hil, hT, hbel⟩ := hrel
  have HBS := hide hbs
  have HBY := hide hby
  have HO := hide ho
  have HTT := hide hT
  have HB := hide hbel
  have hwz := hbel.size
  clear hbs hby ho hT hbel
  by_cases hit : i < n
  · have i1 : (i : Int) < (n : Int) := by omega
    have HCALL := hide (TakeNet_any _ rest wr HBS.out HBY.out hrl)
    go_wp2_with fail
    refine HCALL.out.mono ?_
    rintro e w1 (⟨v1, v2, x, r, ht, rfl, ho1, ho2, hb1⟩ | ⟨ht, rfl, rfl⟩)
    · have HO1 := hide (ho1.more hwz)
      have HO2 := hide ho2
      have hz1 := hb1.size
      have HB1 := hide (HB.out.trans (hb1.mono hwz))
      have HOW := hide (HO.out.keptB hb1 hwz)
      have hll := (take_len ht).1
      have HTN := hide (show (takesF (n - (i + 1)) r).map ((items ++ [x]) ++ ·) = R by
       have h := HTT.out
       rw [show n - i = (n - (i + 1)) + 1 by omega, takesF, ht, Option.bind_some, Option.map_map] at h
       rw [← h]
       simp only [Function.comp_def, List.append_assoc, List.singleton_append])
      have HBR := hide ho2.bytes
      obtain ⟨A1, c1, rfl⟩ := ho1.shape
      clear ho1 ho2 hb1 ht HCALL HO HB HTT HBS HBY
      go_wp2_with (at_builtin; go_must (refine wpList_append_row rfl _ _ rfl w.heap.size _ items rfl HOW.out (by omega) _ x (.inr HO1.out) rfl (by omega) ?_); intro v25 w2 ho25 hb25 hk25; have HO25 := hide ho25; have HB25 := hide (HB1.out.trans hb25); have HOR := hide (hk25 _ _ _ HO2.out); clear ho25 hb25 hk25)
      go_roundw
      case measure => simp [intOf]; omega
      case rel => exact ⟨i + 1, r, items ++ [x], by omega, by go_num, HOR.out.reads, HBR.out, by omega, HO25.out, by simp [hil], HTN.out, HB25.out⟩
    · have HNO := hide (show takesI (n : Int) xs = none by
       rw [HR.out, ← HTT.out, show n - i = (n - (i + 1)) + 1 by omega, takesF, ht]; rfl)
      go_wp2_with fail
      go_ret2
      exact .inr ⟨HNO.out, rfl, HB.out⟩
  · have e : i = n := by omega
    subst e
    have i1 : ¬ (i : Int) < (i : Int) := by omega
    obtain ⟨A1, c1, rfl, g1, g2, g3⟩ := HBS.out.open_
    have HTZ := hide (show (takesF 0 rest).map (items ++ ·) = R by have := HTT.out; rwa [Nat.sub_self] at this)
    clear g3
    by_cases hre : rest = []
    · have HYES := hide (show takesI (i : Int) xs = some items by rw [HR.out, ← HTZ.out, takesF, if_pos hre]; simp)
      subst hre
      go_wp2_with fail
      go_ret2
      exact .inl ⟨_, items, HYES.out, rfl, HO.out, HB.out⟩
    · have HNO := hide (show takesI (i : Int) xs = none by rw [HR.out, ← HTZ.out, takesF, if_neg hre]; rfl)
      have hp : (0 : Int) < (rest.length : Int) := by have := List.length_pos_iff.2 hre; omega
      go_wp2_with fail
      go_ret2
      exact .inr ⟨HNO.out, rfl, HB.out⟩
end Go.Proofs.YthdjgebbjogmiaaDoor
