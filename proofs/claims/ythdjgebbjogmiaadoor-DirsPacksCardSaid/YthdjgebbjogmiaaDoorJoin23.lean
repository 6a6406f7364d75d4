/- aumbry/aumbryref18.child: bytes with the key of a name, to and fro. Condition: at most sixteen thousand bytes.
The reference's Base32 of bytes: their letters. Condition: at most 2^40 bytes. -/
import Derived.Test.YthdjgebbjogmiaaDoorPackLaw
import Derived.Test.YthdjgebbjogmiaaDoorJoin17
import Derived.Test.YthdjgebbjogmiaaDoorJoin22
import Derived.Test.YthdjgebbjogmiaaDoorRefStream
import Derived.Test.YthdjgebbjogmiaaDoorJoin3
set_option linter.unusedVariables false
set_option linter.unusedSimpArgs false
namespace Go.Proofs.YthdjgebbjogmiaaDoor
open Go Go.RowKit
set_option linter.unusedVariables false
set_option maxRecDepth 100000
set_option maxHeartbeats 4000000
theorem kid_ref (c : CapD) (lit : Value) (nm b : List Int) (v : Value) (w : World) (hc : c.Wf) (hl : lit.oneCell' = true) (hnb : Bytes nm) (hnl : nm.length ≤ 1000000) (hv : Bs w w.heap.size v b) (hb : Bytes b) (hbl : b.length ≤ 16000) :
 Calls Tryd.prog 43 #[capV c lit, .string (strOfNums nm), v] w fun e w' => ∃ v', e = .returned v' ∧ Own8 w' w.heap.size v' (kidF c.key nm b) ∧ Below w.heap.size w w' := by
 have HC := hide hc
 have HV := hide hv
 have HBB := hide hb
 obtain ⟨NM, HNM⟩ : ∃ s, Hid (strOfNums nm = s) := ⟨_, hide rfl⟩
 have HNS := hide (show NM.size ≤ maxLen by rw [← HNM.out, strOfNums_size]; unfold maxLen; omega)
 have HNB := hide (show strB NM = nm by rw [← HNM.out]; exact strB_of hnb)
 obtain ⟨key, HK⟩ : ∃ k, Hid (c.key = k) := ⟨_, hide rfl⟩
 have HKS := hide (show key.length = 16 ∧ Bytes key by rw [← HK.out]; exact ⟨hc.keyL, hc.keyB⟩)
 have HRB := hide (show ∀ x ∈ [key, nm], Bytes x from fun x hx => by simp at hx; rcases hx with rfl | rfl; exact HKS.out.2; exact hnb)
 have HRL := hide (show ∀ x ∈ [key, nm], x.length ≤ 1000000 from fun x hx => by simp at hx; rcases hx with rfl | rfl; have := HKS.out.1; omega; exact hnl)
 obtain ⟨SK, HSK⟩ : ∃ x, Hid (shortF (strB tChild) [key, nm] = x) := ⟨_, hide rfl⟩
 have HSKL := hide (show SK.length = 16 ∧ Bytes SK by rw [← HSK.out]; exact ⟨shortF_len _ _, shortF_bytes _ _⟩)
 have HRES := hide (show streamF boxTab (ExpandF SK) (atF 0) b = kidF c.key nm b by rw [HK.out]; unfold kidF; rw [HSK.out]; rfl)
 rw [HNM.out]
 rw [← HRES.out]
 obtain ⟨RES, HR2⟩ : ∃ x, Hid (streamF boxTab (ExpandF SK) (atF 0) b = x) := ⟨_, hide rfl⟩
 have HSTR := hide (fun (w' : World) (hb' : Bs w' w'.heap.size v b) => (Stream_ref SK b 0 v w' HSKL.out.1 HSKL.out.2 (by omega) hb' hbl HBB.out))
 rw [HR2.out] at HSTR ⊢
 clear HRES HR2 hv hb hnb hc
 obtain ⟨g3, HG3⟩ : ∃ k, Hid (w.heap.size = k) := ⟨_, hide rfl⟩
 go_enter Tryd.func43, Tryd.ntmps43
 go_wp2_with (first
  | (refine wpList_cap_new (c := c) (lit := lit) _ rfl rfl rfl HC.out.keyL HC.out.fpL hl ?_; intro w1 hb1 hw1 hs1; rw [HG3.out] at hb1 hs1; try rw [HG3.out]; have H3 := hide hb1; have HB := hide hw1; have HS1 := hide hs1; clear hb1 hw1 hs1)
  | (refine wpList_to_bytes rfl _ rfl NM rfl HNS.out ?_; intro v2 w2 hv2 hw2; rw [HNB.out] at hv2; have HV2 := hide hv2; replace H3 := hide (H3.out.below hw2 H3.out.lt); replace HB := hide (HB.out.trans (hw2.mono HB.out.size)); clear hv2 hw2)
  | (refine wpList_rows2 rfl _ _ rfl (.slice (some ⟨g3, 1, none⟩) 16 16) v2 rfl rfl rfl (cells_one_ (bs_one_ HV2.out.reads)) ?_; intro w4 hb4 hw4; have hz4 := hw4.size; have HROW := hide (rows_two (x := key) hb4 (by rw [← HK.out]; exact ((H3.out.below hw4 H3.out.lt).keyRow (Nat.lt_of_lt_of_le H3.out.lt hz4))) ((HV2.out.reads.below hw4 (Nat.le_refl _)).more hz4)); replace HB := hide (HB.out.trans (hw4.mono HB.out.size)); clear hb4 hw4 HV2))
 refine (Short_ref tChild _ [key, nm] _ HROW.out HRB.out HRL.out (by simp) (by decide)).mono ?_
 rintro e w5 ⟨rfl, hb5⟩
 rw [HSK.out]
 replace HB := hide (HB.out.trans (hb5.mono HB.out.size))
 clear hb5 HROW H3
 go_wp2_with fail
 refine (HSTR.out _ ((HV.out.below HB.out (Nat.le_refl _)).more HB.out.size)).mono ?_
 rintro e w6 ⟨v6, rfl, ho6, hb6⟩
 have HO := hide (ho6.more HB.out.size)
 replace HB := hide (HB.out.trans (hb6.mono HB.out.size))
 clear ho6 hb6
 go_wp2_with fail
 go_ret
 exact ⟨_, rfl, HO.out, HB.out⟩
end Go.Proofs.YthdjgebbjogmiaaDoor

namespace Go.Proofs.YthdjgebbjogmiaaDoor
open Go Go.RowKit
set_option maxRecDepth 100000

theorem em2_mod (H N : Nat) (h : N ≤ 7) : em 2 (H % 2 ^ N) N = em 2 H N := by
 rw [em_two, em_two]
 by_cases h5 : 5 ≤ N
 · rw [if_pos h5, if_pos h5, if_neg (by omega), if_neg (by omega)]
   rcases show N = 5 ∨ N = 6 ∨ N = 7 by omega with rfl | rfl | rfl
   · rw [show H % 2 ^ 5 / 2 ^ (5 - 5) % 32 = H / 2 ^ (5 - 5) % 32 by simp]
   · rw [show H % 2 ^ 6 / 2 ^ (6 - 5) % 32 = H / 2 ^ (6 - 5) % 32 by simp; omega]
   · rw [show H % 2 ^ 7 / 2 ^ (7 - 5) % 32 = H / 2 ^ (7 - 5) % 32 by simp; omega]
 · rw [if_neg h5, if_neg h5]

set_option maxHeartbeats 4000000 in
theorem Base32_ref (v : Value) (xs : List Int) (w : World) (hv : Bs w w.heap.size v xs) (hb : Bytes xs) (hn : xs.length ≤ 1099511627776) :
 Calls Tryd.prog 64 #[v] w fun e w' => e = .returned (.string (strOfNums (b32F xs))) ∧ Below w.heap.size w w' := by
 have HBX := hide hb
 have HRL := hide (b32F_len xs)
 obtain ⟨R, HR⟩ : ∃ r, Hid (b32F xs = r) := ⟨_, hide rfl⟩
 have HR0 := hide (show b32 0 0 xs = R from HR.out)
 have HRB := hide (show Bytes R by rw [← HR.out]; exact b32F_bytes xs)
 rw [HR.out] at HRL
 rw [HR.out]
 obtain ⟨A, c, rfl, h1, h2, h3⟩ := hv.open_
 unfold maxLen at h2
 have H3 := hide h3
 obtain ⟨n, HN⟩ : ∃ n, Hid (xs.length = n) := ⟨_, hide rfl⟩
 rw [HN.out] at h1 hn HRL H3
 rw [HN.out]
 clear hv hb h3 HR
 go_enter Tryd.func64, Tryd.ntmps64
 go_wp2_with fail
 go_loopw [3, 4, 5, 9] (fun v3 v4 v5 v10 wr => ∃ (i h m : Nat) (out : List Int), i ≤ n ∧ v10 = .int .i64 i ∧ v4 = .int .i64 h ∧ v5 = .int .i64 m ∧ m < 5 ∧ h < 2 ^ m ∧ RowB wr w.heap.size v3 out ∧ out ++ b32 h m (xs.drop i) = R ∧ Below w.heap.size w wr) (fun _ _ _ v10 _ => n - (intOf v10).toNat)
 case atStart => exact ⟨0, 0, 0, [], by omega, rfl, rfl, rfl, by omega, by decide, RowB.nil_ _ _, HR0.out, Below.refl _ _⟩
 case round =>
  obtain ⟨i, h, m, out, hi, rfl, rfl, rfl, hm, hh, ho, hR, hbel⟩ := hrel
  have HO := hide ho
  have HRR := hide hR
  have HB := hide hbel
  have h16 : h < 16 := Nat.lt_of_lt_of_le hh (Nat.pow_le_pow_right (by decide) (show m ≤ 4 by omega))
  clear ho hR hbel
  by_cases hit : i < n
  · obtain ⟨b, o, rfl, hbb, hc⟩ := H3.out (by omega)
    obtain ⟨x, HX⟩ : ∃ x, Hid (xs.getD i 0 = x) := ⟨_, hide rfl⟩
    have c1 := (HB.out.cell (p := ⟨b, o + i, none⟩) hbb).trans (hc i x hit HX.out)
    have hx := HBX.out.at_ i
    rw [HX.out] at hx
    obtain ⟨hx0, hx1⟩ := hx
    have i0 : (0 : Int) ≤ (i : Int) := by omega
    have i1 : (i : Int) < (n : Int) := by omega
    obtain ⟨y, rfl⟩ := Int.eq_ofNat_of_zero_le hx0
    clear hc
    go_wp2_with fail
    have e4 : ((h : Int) * 256 + (y : Int)) = ((h * 256 + y : Nat) : Int) := by omega
    have e5 : ((m : Int) + 8) = ((m + 8 : Nat) : Int) := by omega
    rw [e4, e5]
    clear e4 e5
    have HTL := hide (show out ++ (em 2 (h * 256 + y) (m + 8) ++ b32 ((h * 256 + y) % 2 ^ ((m + 8) % 5)) ((m + 8) % 5) (xs.drop (i + 1))) = R by
     rw [← HRR.out]
     have hil : i < xs.length := by rw [HN.out]; exact hit
     rw [List.drop_eq_getElem_cons hil]
     have ey : (xs[i]'hil).toNat = y := by rw [← getD_el' xs i hil, HX.out]; exact Int.toNat_natCast y
     rw [b32, ey])
    have hHN : h * 256 + y < 2 ^ (m + 8) := by
     have : 2 ^ (m + 8) = 2 ^ m * 256 := by rw [Nat.pow_add]
     omega
    have hH : h * 256 + y < 4096 := by omega
    generalize h * 256 + y = H at HTL hH hHN
    obtain ⟨M, HM⟩ : ∃ M, Hid (m + 8 = M) := ⟨_, hide rfl⟩
    rw [HM.out] at HTL hHN
    rw [HM.out]
    have hM12 : M ≤ 12 := by rw [← HM.out]; omega
    clear HRR hh
    go_loopw [3, 4, 5] (fun v3 v4 v5 wq => ∃ (N H : Nat) (out' : List Int), v5 = .int .i64 N ∧ v4 = .int .i64 H ∧ N ≤ 12 ∧ H < 2 ^ N ∧ RowB wq w.heap.size v3 out' ∧ out' ++ (em 2 H N ++ b32 (H % 2 ^ (N % 5)) (N % 5) (xs.drop (i + 1))) = R ∧ Below w.heap.size w wq) (fun _ _ v5 _ => (intOf v5).toNat)
    case atStart => exact ⟨M, H, out, rfl, rfl, hM12, hHN, HO.out, HTL.out, HB.out⟩
    case round =>
     clear HO HTL HB hHN hH hM12 HM
     obtain ⟨N, H, out', rfl, rfl, hN12, hHN, ho', hR', hbel'⟩ := hrel
     have HO' := hide ho'
     have HR' := hide hR'
     have HB' := hide hbel'
     have hwz := hbel'.size
     have hH : H < 4096 := Nat.lt_of_lt_of_le hHN (Nat.pow_le_pow_right (by decide) hN12)
     clear ho' hR' hbel'
     by_cases hN5 : 5 ≤ N
     · have hol : out'.length ≤ R.length := by rw [← HR'.out, List.length_append]; omega
       have holl : out'.length ≤ 2199023255552 := by have := HRL.out; omega
       have hq : H / 2 ^ (N - 5) < 32 := by
        refine Nat.div_lt_of_lt_mul ?_
        have : 2 ^ N = 2 ^ (N - 5) * 32 := by rw [show (32 : Nat) = 2 ^ 5 from rfl, ← Nat.pow_add]; congr 1; omega
        omega
       have hst := em2_step H N hN5 hN12
       rw [Nat.mod_eq_of_lt hq, ← em2_mod H (N - 5) (by omega)] at hst
       have hmm : H % 2 ^ (N % 5) = (H % 2 ^ (N - 5)) % 2 ^ (N % 5) := (Nat.mod_mod_of_dvd H (Nat.pow_dvd_pow 2 (by omega))).symm
       have h55 : N % 5 = (N - 5) % 5 := by omega
       rw [hst, hmm, h55] at HR'
       have HAND := hide (and_low H (N - 5) (by omega) (by omega))
       have hlt : H % 2 ^ (N - 5) < 2 ^ (N - 5) := Nat.mod_lt _ (Nat.pow_pos (by decide))
       clear hst hmm h55
       obtain ⟨H', eH⟩ : ∃ H', H % 2 ^ (N - 5) = H' := ⟨_, rfl⟩
       rw [eH] at HR' HAND hlt
       clear eH
       obtain ⟨q2, eq2⟩ : ∃ q2 : Int, ((2 ^ (N - 5) - 1 : Nat) : Int) = q2 := ⟨_, rfl⟩
       rw [eq2] at HAND
       obtain ⟨q, HQ⟩ : ∃ q, Hid (H / 2 ^ (N - 5) = q) := ⟨_, hide rfl⟩
       rw [HQ.out] at HR' hq
       have HQB := hide (show Bytes [ltr q] from fun x hx => by simp at hx; subst hx; exact ltr_byte hq)
       obtain ⟨lq, eL⟩ : ∃ l, ltr q = l := ⟨_, rfl⟩
       have HLT := hide (show ∀ (ops : Array Oper) (rest : List Oper) (o : Oper) (a : Act) (w : World) (Q : Exit → Act → World → Prop) (x : Operand) (z : Int), o.guard = none → o.op = .index 9 (.const (.string lettersS)) x → a.eval x = .int .i64 z → z = ((H / 2 ^ (N - 5) : Nat) : Int) →
        wpList Tryd.prog ops Q rest (a.put o.dst (.int .u8 lq)) w → wpList Tryd.prog ops Q (o :: rest) a w from fun ops rest o a w Q x z hg ho hx hz h => wpList_letter hg x ho z hx q (by rw [hz, HQ.out]) hq (by rw [eL]; exact h))
       rw [eL] at HR' HQB
       obtain ⟨E2, eE⟩ : ∃ E : Nat → List Int, (fun j => em 2 H' j ++ b32 (H' % 2 ^ (j % 5)) (j % 5) (xs.drop (i + 1))) = E := ⟨_, rfl⟩
       have HRE := hide (show ∀ j, j = N - 5 → (out' ++ [lq]) ++ (em 2 H' j ++ b32 (H' % 2 ^ (j % 5)) (j % 5) (xs.drop (i + 1))) = R from fun j hj => by rw [hj, ← HR'.out, List.append_assoc]; rfl)
       clear eL HR' HQ eE
       have HL3 := hide ((RowB.of_blk (base := 0) (Blk.new wr 5 (u8s [lq])) (by omega) HQB.out (by unfold maxLen; simp)).reads)
       have hba := (Below.refl wr.heap.size wr).alloc (Nat.le_refl _) (.cells (u8s [lq]).toArray 5)
       have HO3 := hide (HO'.out.keptB hba)
       have HB3 := hide (HB'.out.trans (hba.mono hwz))
       have hz3 := hba.size
       clear hba
       rcases show N = 5 ∨ N = 6 ∨ N = 7 ∨ N = 8 ∨ N = 9 ∨ N = 10 ∨ N = 11 ∨ N = 12 by omega with rfl | rfl | rfl | rfl | rfl | rfl | rfl | rfl
       all_goals
        clear hN5 hN12
        simp at eq2
        subst eq2
        go_wp2_with (first
         | (refine HLT.out _ _ _ _ _ _ _ _ rfl rfl rfl (by simp) ?_)
         | (at_builtin; go_must (refine wpList_append_B rfl _ _ rfl w.heap.size _ _ rfl HO3.out _ _ [lq] rfl HL3.out HQB.out (by simp; omega) (Nat.le_trans hwz hz3) ?_); intro v9 w4 ho9 hg4; have HB4 := hide (HB3.out.grown hg4 (Nat.le_trans hwz hz3) (fun k hk => (HO3.out.base_ k hk).1)); have HO9 := hide ho9; clear ho9 hg4 HB3 HO3 HL3))
        go_roundw
        case measure => simp [intOf]
        case rel => first
         | exact ⟨0, H', out' ++ [lq], rfl, congrArg _ HAND.out, by omega, hlt, HO9.out, HRE.out 0 (by omega), HB4.out⟩
         | exact ⟨1, H', out' ++ [lq], rfl, congrArg _ HAND.out, by omega, hlt, HO9.out, HRE.out 1 (by omega), HB4.out⟩
         | exact ⟨2, H', out' ++ [lq], rfl, congrArg _ HAND.out, by omega, hlt, HO9.out, HRE.out 2 (by omega), HB4.out⟩
         | exact ⟨3, H', out' ++ [lq], rfl, congrArg _ HAND.out, by omega, hlt, HO9.out, HRE.out 3 (by omega), HB4.out⟩
         | exact ⟨4, H', out' ++ [lq], rfl, congrArg _ HAND.out, by omega, hlt, HO9.out, HRE.out 4 (by omega), HB4.out⟩
         | exact ⟨5, H', out' ++ [lq], rfl, congrArg _ HAND.out, by omega, hlt, HO9.out, HRE.out 5 (by omega), HB4.out⟩
         | exact ⟨6, H', out' ++ [lq], rfl, congrArg _ HAND.out, by omega, hlt, HO9.out, HRE.out 6 (by omega), HB4.out⟩
         | exact ⟨7, H', out' ++ [lq], rfl, congrArg _ HAND.out, by omega, hlt, HO9.out, HRE.out 7 (by omega), HB4.out⟩
     · rw [em2_end H N (by omega), List.nil_append, Nat.mod_eq_of_lt (show N < 5 by omega), Nat.mod_eq_of_lt hHN] at HR'
       have HHN := hide hHN
       clear hHN hH
       have n5 : ¬ (5 : Int) ≤ (N : Int) := by omega
       go_wp2_with fail
       go_roundw
       case measure => simp [intOf]; omega
       case rel => exact ⟨i + 1, H, N, out', by omega, by go_num, rfl, rfl, by omega, HHN.out, HO'.out, HR'.out, HB'.out⟩
  · have e : i = n := by omega
    subst e
    have hwz := HB.out.size
    have HR' := hide (show out ++ b32 h m [] = R by rw [← HRR.out, List.drop_of_length_le (by rw [HN.out]; exact Nat.le_refl _)])
    have hol : out.length ≤ R.length := by rw [← HR'.out, List.length_append]; omega
    have holl : out.length ≤ 2199023255552 := by have := HRL.out; omega
    have i1 : ¬ (i : Int) < (i : Int) := by omega
    clear HRR hit hi
    by_cases hm0 : m = 0
    · subst hm0
      have HRO := hide (show out = R by have := HR'.out; rw [b32, if_neg (by omega), List.append_nil] at this; exact this)
      rw [HRO.out] at HO
      clear HR' hh HRO
      go_wp2_with (refine wpList_to_string rfl _ rfl _ _ R rfl HO.out.reads ?_)
      go_ret
      exact ⟨rfl, HB.out⟩
    · have hq : h * 2 ^ (5 - m) < 32 := by
       rcases show m = 1 ∨ m = 2 ∨ m = 3 ∨ m = 4 by omega with rfl | rfl | rfl | rfl <;> simp at hh ⊢ <;> omega
      have HRO := hide (show out ++ [ltr (h * 2 ^ (5 - m))] = R by have := HR'.out; rw [b32, if_pos (by omega), Nat.mod_eq_of_lt hq] at this; exact this)
      obtain ⟨q, HQ⟩ : ∃ q, Hid (h * 2 ^ (5 - m) = q) := ⟨_, hide rfl⟩
      rw [HQ.out] at HRO hq
      clear HR'
      have HQB := hide (show Bytes [ltr q] from fun x hx => by simp at hx; subst hx; exact ltr_byte hq)
      obtain ⟨lq, eL⟩ : ∃ l, ltr q = l := ⟨_, rfl⟩
      have HLT := hide (show ∀ (ops : Array Oper) (rest : List Oper) (o : Oper) (a : Act) (w : World) (Q : Exit → Act → World → Prop) (x : Operand) (z : Int), o.guard = none → o.op = .index 9 (.const (.string lettersS)) x → a.eval x = .int .i64 z → z = ((h * 2 ^ (5 - m) : Nat) : Int) →
       wpList Tryd.prog ops Q rest (a.put o.dst (.int .u8 lq)) w → wpList Tryd.prog ops Q (o :: rest) a w from fun ops rest o a w Q x z hg ho hx hz h => wpList_letter hg x ho z hx q (by rw [hz, HQ.out]) hq (by rw [eL]; exact h))
      rw [eL] at HRO HQB
      clear eL HQ
      have HL3 := hide ((RowB.of_blk (base := 0) (Blk.new wr 5 (u8s [lq])) (by omega) HQB.out (by unfold maxLen; simp)).reads)
      have hba := (Below.refl wr.heap.size wr).alloc (Nat.le_refl _) (.cells (u8s [lq]).toArray 5)
      have HO3 := hide (HO.out.keptB hba)
      have HB3 := hide (HB.out.trans (hba.mono hwz))
      have hz3 := hba.size
      clear hba
      rcases show m = 1 ∨ m = 2 ∨ m = 3 ∨ m = 4 by omega with rfl | rfl | rfl | rfl
      all_goals
       clear hm0 hm hh
       go_wp2_with (first
        | (refine HLT.out _ _ _ _ _ _ _ _ rfl rfl rfl (by simp) ?_)
        | (at_builtin; go_must (refine wpList_append_B rfl _ _ rfl w.heap.size _ _ rfl HO3.out _ _ [lq] rfl HL3.out HQB.out (by simp; omega) (Nat.le_trans hwz hz3) ?_); intro v9 w4 ho9 hg4; have HB4 := hide (HB3.out.grown hg4 (Nat.le_trans hwz hz3) (fun k hk => (HO3.out.base_ k hk).1)); rw [HRO.out] at ho9; have HO9 := hide ho9; clear ho9 hg4 HB3 HO3 HL3)
        | (refine wpList_to_string rfl _ rfl _ _ R rfl HO9.out.reads ?_))
       go_ret
       exact ⟨rfl, HB4.out⟩
end Go.Proofs.YthdjgebbjogmiaaDoor
