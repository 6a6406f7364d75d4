/- aumbry/aumbryref18.child: bytes with the key of a name, to and fro. Condition: at most sixteen thousand bytes.
What the document takes a text for, case by case; a capability's bytes written one by one.
aumbryref13.parts: a text between colons. Condition: at most a million letters.
aumbryref13.number: a small number of digits; a wrong one is 0. Condition: at most a million letters. -/
import Derived.Test.YthdjgebbjogmiaaGreatDoorPackLaw
import Derived.Test.YthdjgebbjogmiaaGreatDoorJoin16
import Derived.Test.YthdjgebbjogmiaaGreatDoorJoin20
import Derived.Test.YthdjgebbjogmiaaGreatDoorRefStream
import Derived.Test.YthdjgebbjogmiaaGreatDoorJoin11
import Derived.Test.YthdjgebbjogmiaaGreatDoorJoin9
import Derived.BigQuiet
import Derived.Test.YthdjgebbjogmiaaGreatDoorJoin22
set_option linter.unusedVariables false
set_option linter.unusedSimpArgs false
namespace Go.Proofs.YthdjgebbjogmiaaGreatDoor
open Go Go.RowKit
set_option linter.unusedVariables false
set_option maxRecDepth 100000
set_option maxHeartbeats 4000000
theorem kid_ref (c : CapD) (lit : Value) (nm b : List Int) (v : Value) (w : World) (hc : c.Wf) (hl : lit.oneCell' = true) (hnb : Bytes nm) (hnl : nm.length ≤ 1000000) (hv : Bs w w.heap.size v b) (hb : Bytes b) (hbl : b.length ≤ 16000) :
 Calls Tryz.prog 19 #[capV c lit, .string (strOfNums nm), v] w fun e w' => ∃ v', e = .returned v' ∧ Own8 w' w.heap.size v' (kidF c.key nm b) ∧ Below w.heap.size w w' := by
 have HC := hide hc;have HV := hide hv;have HBB := hide hb;obtain ⟨NM, HNM⟩ : ∃ s, Hid (strOfNums nm = s) := ⟨_, hide rfl⟩;have HNS := hide (show NM.size ≤ maxLen by rw [← HNM.out, strOfNums_size]; unfold maxLen; omega);have HNB := hide (show strB NM = nm by rw [← HNM.out]; exact strB_of hnb);obtain ⟨key, HK⟩ : ∃ k, Hid (c.key = k) := ⟨_, hide rfl⟩;have HKS := hide (show key.length = 16 ∧ Bytes key by rw [← HK.out]; exact ⟨hc.keyL, hc.keyB⟩);have HRB := hide (show ∀ x ∈ [key, nm], Bytes x from fun x hx => by simp at hx; rcases hx with rfl | rfl; exact HKS.out.2; exact hnb);have HRL := hide (show ∀ x ∈ [key, nm], x.length ≤ 1000000 from fun x hx => by simp at hx; rcases hx with rfl | rfl; have := HKS.out.1; omega; exact hnl);obtain ⟨SK, HSK⟩ : ∃ x, Hid (shortF (strB tChild) [key, nm] = x) := ⟨_, hide rfl⟩;have HSKL := hide (show SK.length = 16 ∧ Bytes SK by rw [← HSK.out]; exact ⟨shortF_len _ _, shortF_bytes _ _⟩);have HRES := hide (show streamF boxTab (ExpandF SK) (atF 0) b = kidF c.key nm b by rw [HK.out]; unfold kidF; rw [HSK.out]; rfl);rw [HNM.out];rw [← HRES.out];obtain ⟨RES, HR2⟩ : ∃ x, Hid (streamF boxTab (ExpandF SK) (atF 0) b = x) := ⟨_, hide rfl⟩;have HSTR := hide (fun (w' : World) (hb' : Bs w' w'.heap.size v b) => (Stream_ref SK b 0 v w' HSKL.out.1 HSKL.out.2 (by omega) hb' hbl HBB.out));rw [HR2.out] at HSTR ⊢;clear HRES HR2 hv hb hnb hc;obtain ⟨g3, HG3⟩ : ∃ k, Hid (w.heap.size = k) := ⟨_, hide rfl⟩
 go_enter Tryz.func19, Tryz.ntmps19
 go_wp2_with (first
  | (refine wpList_cap_new (c := c) (lit := lit) _ rfl rfl rfl HC.out.keyL HC.out.fpL hl ?_; intro w1 hb1 hw1 hs1; rw [HG3.out] at hb1 hs1; try rw [HG3.out]; have H3 := hide hb1; have HB := hide hw1; have HS1 := hide hs1; clear hb1 hw1 hs1)
  | (refine wpList_to_bytes rfl _ rfl NM rfl HNS.out ?_; intro v2 w2 hv2 hw2; rw [HNB.out] at hv2; have HV2 := hide hv2; replace H3 := hide (H3.out.below hw2 H3.out.lt); replace HB := hide (HB.out.trans (hw2.mono HB.out.size)); clear hv2 hw2)
  | (refine wpList_rows2 rfl _ _ rfl (.slice (some ⟨g3, 1, none⟩) 16 16) v2 rfl rfl rfl (cells_one_ (bs_one_ HV2.out.reads)) ?_; intro w4 hb4 hw4; have hz4 := hw4.size; have HROW := hide (rows_two (x := key) hb4 (by rw [← HK.out]; exact ((H3.out.below hw4 H3.out.lt).keyRow (Nat.lt_of_lt_of_le H3.out.lt hz4))) ((HV2.out.reads.below hw4 (Nat.le_refl _)).more hz4)); replace HB := hide (HB.out.trans (hw4.mono HB.out.size)); clear hb4 hw4 HV2))
 refine (Short_ref tChild _ [key, nm] _ HROW.out HRB.out HRL.out (by simp) (by decide)).mono ?_;rintro e w5 ⟨rfl, hb5⟩;rw [HSK.out];replace HB := hide (HB.out.trans (hb5.mono HB.out.size));clear hb5 HROW H3
 go_wp2_with fail
 refine (HSTR.out _ ((HV.out.below HB.out (Nat.le_refl _)).more HB.out.size)).mono ?_;rintro e w6 ⟨v6, rfl, ho6, hb6⟩;have HO := hide (ho6.more HB.out.size);replace HB := hide (HB.out.trans (hb6.mono HB.out.size));clear ho6 hb6
 go_wp2_with fail
 go_ret
 exact ⟨_, rfl, HO.out, HB.out⟩

section
variable {s : List Int} {L : List (List Int)} (hL : splitF s = L)
include hL
theorem candq_short (h : L.length < 3) : candQ s = none := by
 subst hL; unfold candQ; simp only; rw [if_pos h]
theorem candq_lit {a : List Int} (h : 3 ≤ L.length) (hb : (bytes32F (L.getD 2 [])).getD [] = a) (hk : kindF (L.getD 1 []) = 3) : candQ s = some ⟨3, zeros 16, zeros 32, 0, 0, 0, a⟩ := by
 subst hL hb; unfold candQ; simp only; rw [if_neg (by omega), if_pos hk]
theorem candq_bare {a : List Int} (h : 3 ≤ L.length) (hb : (bytes32F (L.getD 2 [])).getD [] = a) (hk : ¬ kindF (L.getD 1 []) = 3) (h4 : ¬ (a.length = 16 ∧ 3 < L.length)) : candQ s = some ⟨kindF (L.getD 1 []), zeros 16, zeros 32, 0, 0, 0, []⟩ := by
 subst hL hb; unfold candQ; simp only; rw [if_neg (by omega), if_neg hk, if_neg h4]
theorem candq_file {a f : List Int} (hb : (bytes32F (L.getD 2 [])).getD [] = a) (hf : (bytes32F (L.getD 3 [])).getD [] = f) (h16 : a.length = 16) (hk : kindF (L.getD 1 []) = 1 ∨ kindF (L.getD 1 []) = 2) (h6 : 6 < L.length) :
 candQ s = some ⟨kindF (L.getD 1 []), a, fill32 f, numQ (L.getD 4 []), numQ (L.getD 5 []), numQ (L.getD 6 []), []⟩ := by
 subst hL hb hf; unfold candQ; simp only; rw [if_neg (by omega), if_neg (by omega), if_pos ⟨h16, by omega⟩, if_pos ⟨hk, h6⟩]
theorem candq_slot {a f : List Int} (h : 3 < L.length) (hb : (bytes32F (L.getD 2 [])).getD [] = a) (hf : (bytes32F (L.getD 3 [])).getD [] = f) (h16 : a.length = 16) (hk : ¬ kindF (L.getD 1 []) = 3) (h6 : ¬ ((kindF (L.getD 1 []) = 1 ∨ kindF (L.getD 1 []) = 2) ∧ 6 < L.length)) :
 candQ s = some ⟨kindF (L.getD 1 []), a, fill32 f, 0, 0, 0, []⟩ := by
 subst hL hb hf; unfold candQ; simp only; rw [if_neg (by omega), if_neg hk, if_pos ⟨h16, by omega⟩, if_neg h6]
end
theorem parseq_none {s : List Int} (h : candQ s = none) : parseF s = none := by rw [← parse_ref]; unfold pick; rw [h]; rfl
theorem parseq_some {s : List Int} {c : CapD} (h : candQ s = some c) (hv : c.Valid) (hp : printF c = s) : parseF s = some c := by rw [← parse_ref]; unfold pick; rw [h, Option.bind_some, if_pos ⟨hv, hp⟩]
theorem parseq_not {s : List Int} {c : CapD} (h : candQ s = some c) (hn : ¬ (c.Valid ∧ printF c = s)) : parseF s = none := by rw [← parse_ref]; unfold pick; rw [h, Option.bind_some, if_neg hn]

/-- The first i bytes of a, filled up to n. -/
def fillN (a : List Int) (n i : Nat) : List Int := a.take i ++ zeros (n - i)
theorem fillN_set {a : List Int} {n i : Nat} (h : i < a.length) (hn : i < n) : (fillN a n i).set i (a.getD i 0) = fillN a n (i + 1) := by
 unfold fillN
 rw [List.set_append_right _ _ (by simp; omega), List.length_take, Nat.min_eq_left (by omega), Nat.sub_self, List.take_succ_eq_append_getElem h, getD_el' a i h,
  show n - i = (n - (i + 1)) + 1 by omega, zeros, zeros, List.replicate_succ, List.set_cons_zero, List.append_assoc, List.singleton_append]
theorem fillN_key {a : List Int} (h : a.length = 16) : fillN a 16 16 = a := by simp [fillN, List.take_of_length_le (Nat.le_of_eq h)]
theorem fillN_fp {f : List Int} {i : Nat} (hi : i ≤ f.length) (hn : i ≤ 32) (h : ¬ (i < f.length ∧ i < 32)) : fillN f 32 i = fill32 f := by
 unfold fillN fill32
 rcases Nat.lt_or_ge i 32 with h1 | h1
 · have : i = f.length := by omega
   subst this
   rw [List.take_of_length_le (Nat.le_refl _), List.take_of_length_le (by omega)]
 · have : i = 32 := by omega
   subst this
   rw [show 32 - f.length = 0 by omega, show 32 - 32 = 0 from rfl]

section
variable {ops : Array Oper} {rest : List Oper} {o : Oper} {a : Act} {w : World} {Q : Exit → Act → World → Prop} {g : Nat} {c : CapD} {lit : Value}
theorem size_u8P : (Tryz.prog.info? 5).map (·.size) = some 1 := by kernel_rfl
theorem cc_setKey {c : CapD} {lit : Value} (h1 : c.key.length = 16) (i : Nat) (hi : i < 16) (z : Int) : (capCells c lit).set (1 + i) (.int .u8 z) = capCells { c with key := c.key.set i z } lit := by
 unfold capCells;rw [show 1 + i = i + 1 by omega, List.set_cons_succ, List.set_append_left _ _ (by rw [u8s_len]; omega), u8s_set]
theorem cc_setFp {c : CapD} {lit : Value} (h1 : c.key.length = 16) (h2 : c.fp.length = 32) (i : Nat) (hi : i < 32) (z : Int) : (capCells c lit).set (17 + i) (.int .u8 z) = capCells { c with fp := c.fp.set i z } lit := by
 unfold capCells;rw [show 17 + i = (16 + i) + 1 by omega, List.set_cons_succ, List.set_append_right _ _ (by rw [u8s_len]; omega), u8s_len, h1, show 16 + i - 16 = i by omega, List.set_append_left _ _ (by rw [u8s_len]; omega), u8s_set]
theorem wpList_cap_putKeyAt (x y : Operand) (ho : o.op = .store 5 x y) (off : Nat) (hx : a.eval x = .pointer (some ⟨g, off, none⟩)) (hgd : o.guard = none) (hB : CapB w g c lit) (i : Nat) (hoff : off = 1 + i) (hi : i < 16) (z : Int) (hy : a.eval y = .int .u8 z)
 (h : ∀ w', CapB w' g { c with key := c.key.set i z } lit → w.grownBy w' (some g) → w'.heap.size = w.heap.size → wpList Tryz.prog ops Q rest (a.put o.dst undef) w') : wpList Tryz.prog ops Q (o :: rest) a w := by
 subst hoff;have hg := grown_setCells (g := g) [Value.int .u8 z] w (1 + i)
 have hcell : w.cell? ⟨g, 1 + i, none⟩ = some ((capCells c lit)[1 + i]'(by rw [cc_len lit hB.keyL hB.fpL]; omega)) := by rw [hB.blk.cell]; exact List.getElem?_eq_getElem _
 refine wpList_plain hgd fun _ hK => wp_store_one _ x y ho g (1 + i) hx _ hy (by rw [hcell]; rfl) (hB.blk.frozen _) rfl size_u8P (hK _ _ (h _ ⟨?_, by show (c.key.set i z).length = 16; rw [List.length_set]; exact hB.keyL, hB.fpL, hB.one⟩ hg.1 hg.2))
 have := hB.blk.set_ (1 + i) (.int .u8 z)
 rw [cc_setKey hB.keyL i hi] at this
 exact this
theorem wpList_cap_putFpAt (x y : Operand) (ho : o.op = .store 5 x y) (off : Nat) (hx : a.eval x = .pointer (some ⟨g, off, none⟩)) (hgd : o.guard = none) (hB : CapB w g c lit) (i : Nat) (hoff : off = 17 + i) (hi : i < 32) (z : Int) (hy : a.eval y = .int .u8 z)
 (h : ∀ w', CapB w' g { c with fp := c.fp.set i z } lit → w.grownBy w' (some g) → w'.heap.size = w.heap.size → wpList Tryz.prog ops Q rest (a.put o.dst undef) w') : wpList Tryz.prog ops Q (o :: rest) a w := by
 subst hoff;have hg := grown_setCells (g := g) [Value.int .u8 z] w (17 + i)
 have hcell : w.cell? ⟨g, 17 + i, none⟩ = some ((capCells c lit)[17 + i]'(by rw [cc_len lit hB.keyL hB.fpL]; omega)) := by rw [hB.blk.cell]; exact List.getElem?_eq_getElem _
 refine wpList_plain hgd fun _ hK => wp_store_one _ x y ho g (17 + i) hx _ hy (by rw [hcell]; rfl) (hB.blk.frozen _) rfl size_u8P (hK _ _ (h _ ⟨?_, hB.keyL, by show (c.fp.set i z).length = 32; rw [List.length_set]; exact hB.fpL, hB.one⟩ hg.1 hg.2))
 have := hB.blk.set_ (17 + i) (.int .u8 z)
 rw [cc_setFp hB.keyL hB.fpL i hi] at this
 exact this
end

set_option maxHeartbeats 4000000 in
theorem split_ref (s : ByteArray) (w : World) (hn : s.size ≤ 1000000) :
 Calls Tryz.prog 53 #[.string s] w fun e w' => ∃ v, e = .returned v ∧ StrRow w' w.heap.size v (splitF (strB s)) ∧ Below w.heap.size w w' := by
 have HSL := hide (strB_len s)
 have HAT := hide (fun (i : Nat) (h : i < s.size) => (show ∀ w : World, (Instr.index 9 (.string s) (.int .i64 (i : Int))).run Tryz.prog w = .ok (.int .u8 ((strB s).getD i 0)) w from fun w => by
  rw [run_index_string w 9 s .i64 (i : Int) Tryz.underlying9, dif_pos ⟨by omega, by omega⟩];simp only [Int.toNat_natCast];rw [strB, List.getD_eq_getElem?_getD, List.getElem?_map, List.getElem?_eq_getElem (by rw [Array.length_toList]; exact h)]
  rfl))
 have HEX := hide (extract_nums s);obtain ⟨xs, HXS⟩ : ∃ x, Hid (strB s = x) := ⟨_, hide rfl⟩;rw [HXS.out] at HSL HAT HEX;rw [HXS.out];obtain ⟨n, HN⟩ : ∃ n, Hid (s.size = n) := ⟨_, hide rfl⟩
 have hsn : s.size ≤ n := by rw [HN.out]; exact Nat.le_refl _
 have hns : n ≤ s.size := by rw [HN.out]; exact Nat.le_refl _
 rw [HN.out] at HSL;clear HXS
 go_enter Tryz.func53, Tryz.ntmps53
 go_wp2_with fail
 go_loopw [3, 4, 5] (fun v3 v4 v5 wr => ∃ (i f : Nat) (out : List (List Int)), i ≤ n + 1 ∧ v5 = .int .i64 i ∧ v4 = .int .i64 f ∧ out.length ≤ i ∧ StrRow wr w.heap.size v3 out ∧
  ((i ≤ n ∧ f ≤ i ∧ splitF xs = out ++ splitF (xs.drop f) ∧ (∀ x ∈ (xs.drop f).take (i - f), x ≠ 58)) ∨ (i = n + 1 ∧ splitF xs = out)) ∧ Below w.heap.size w wr) (fun _ _ v5 _ => n + 1 - (intOf v5).toNat)
 case atStart => exact ⟨0, 0, [], by omega, rfl, rfl, by simp, StrRow.nil_ _ _, .inl ⟨by omega, by omega, by simp, by simp⟩, Below.refl _ _⟩
 case round =>
  obtain ⟨i, f, out, hi, rfl, rfl, hol, ho, hcase, hbel⟩ := hrel;have HO := hide ho;have HB := hide hbel;have hwz := hbel.size;clear ho hbel
  rcases hcase with ⟨hin, hf, hsp, hno⟩ | ⟨hin, hsp⟩
  · have HSP := hide hsp
    have HNO := hide hno;clear hsp hno
    have i0 : (i : Int) ≤ (s.size : Int) := by omega
    have i3 : (f : Int) ≤ (i : Int) := by omega
    have i4 : (f : Int) ≤ (s.size : Int) := by omega
    by_cases hit : i < n
    · have hat := HAT.out i (by omega)
      obtain ⟨x, HX⟩ : ∃ x, Hid (xs.getD i 0 = x) := ⟨_, hide rfl⟩;rw [HX.out] at hat
      have i1 : (i : Int) < (s.size : Int) := by omega
      have d1 : ((i : Int) == (s.size : Int)) = false := by simp; omega
      by_cases hx : x = 58
      · have hxb : (x == 58) = true := by simp [hx]
        have HS2 := hide (split_at hf (by rw [HSL.out]; exact hit) HNO.out (by rw [HX.out, hx]));subst hx
        go_wp2_with (first
         | (at_builtin; go_must (refine wpList_append_str rfl _ _ rfl w.heap.size _ out rfl HO.out (by omega) _ _ (HEX.out f i) rfl (by omega) ?_); intro v9 w9 ho9 hb9; have HO9 := hide ho9; have HB9 := hide (HB.out.trans hb9); clear ho9 hb9))
        go_roundw
        case measure => simp [intOf]; omega
        case rel => exact ⟨i + 1, i + 1, out ++ [(xs.drop f).take (i - f)], by omega, by go_num, by go_num, by simp; omega, HO9.out, .inl ⟨by omega, by omega, by rw [HSP.out, HS2.out]; simp, by simp⟩, HB9.out⟩
      · have hxb : (x == 58) = false := by simp [hx]
        have HN2 := hide (no_colon hf (by rw [HSL.out]; exact hit) HNO.out (by rw [HX.out]; exact hx))
        go_wp2_with fail
        go_roundw
        case measure => simp [intOf]; omega
        case rel => exact ⟨i + 1, f, out, by omega, by go_num, rfl, by omega, HO.out, .inl ⟨by omega, by omega, HSP.out, HN2.out⟩, HB.out⟩
    · have e : i = n := by omega
      have hil : ¬ (i : Int) < (s.size : Int) := by omega
      have d1 : ((i : Int) == (s.size : Int)) = true := by simp; omega
      have HE := hide (show splitF xs = out ++ [xs.drop f] by rw [HSP.out, split_end (by rw [HSL.out, ← e]; exact HNO.out)]);have HXE := hide (show s.extract f s.size = strOfNums (xs.drop f) by rw [HEX.out, List.take_of_length_le (by rw [List.length_drop, HSL.out]; omega)])
      go_wp2_with (first
       | (at_builtin; go_must (refine wpList_append_str rfl _ _ rfl w.heap.size _ out rfl HO.out (by omega) _ _ HXE.out rfl (by omega) ?_); intro v9 w9 ho9 hb9; have HO9 := hide ho9; have HB9 := hide (HB.out.trans hb9); clear ho9 hb9))
      go_roundw
      case measure => simp [intOf]; omega
      case rel => exact ⟨s.size + 1, s.size + 1, out ++ [xs.drop f], by omega, by go_num, by go_num, by simp; omega, HO9.out, .inr ⟨by omega, HE.out⟩, HB9.out⟩
  · have HSP := hide hsp
    clear hsp
    have i0 : ¬ (i : Int) ≤ (s.size : Int) := by omega
    go_wp2_with fail
    go_ret
    exact ⟨_, rfl, by rw [HSP.out]; exact HO.out, HB.out⟩

theorem take_digits {xs : List Int} {i : Nat} (h : i < xs.length) (hd : ∀ x ∈ xs.take i, 48 ≤ x ∧ x < 58) (h1 : 48 ≤ xs.getD i 0) (h2 : xs.getD i 0 < 58) : ∀ x ∈ xs.take (i + 1), 48 ≤ x ∧ x < 58 := by
 rw [List.take_succ_eq_append_getElem h];intro x hx
 rcases List.mem_append.1 hx with hx | hx
 · exact hd x hx
 · rw [List.mem_singleton] at hx
   subst hx;rw [getD_el' xs i h] at h1 h2;exact ⟨h1, h2⟩

set_option maxHeartbeats 4000000 in
theorem number_ref (s : ByteArray) (w : World) (hn : s.size ≤ 1000000) :
 Calls Tryz.prog 55 #[.string s] w fun e w' => e = .returned (.int .i64 (numQ (strB s))) ∧ Below w.heap.size w w' := by
 have HSL := hide (strB_len s);have HBX := hide (strB_bytes s)
 have HAT := hide (fun (i : Nat) (h : i < s.size) => (show ∀ w : World, (Instr.index 9 (.string s) (.int .i64 (i : Int))).run Tryz.prog w = .ok (.int .u8 ((strB s).getD i 0)) w from fun w => by
  rw [run_index_string w 9 s .i64 (i : Int) Tryz.underlying9, dif_pos ⟨by omega, by omega⟩];simp only [Int.toNat_natCast];rw [strB, List.getD_eq_getElem?_getD, List.getElem?_map, List.getElem?_eq_getElem (by rw [Array.length_toList]; exact h)]
  rfl))
 obtain ⟨xs, HXS⟩ : ∃ x, Hid (strB s = x) := ⟨_, hide rfl⟩;rw [HXS.out] at HSL HAT HBX;rw [HXS.out];obtain ⟨n, HN⟩ : ∃ n, Hid (s.size = n) := ⟨_, hide rfl⟩
 have hsn : s.size ≤ n := by rw [HN.out]; exact Nat.le_refl _
 have hns : n ≤ s.size := by rw [HN.out]; exact Nat.le_refl _
 rw [HN.out] at HSL;clear HXS
 have HDONE := hide (fun (i : Nat) (h1 : i ≤ n) (h2 : i ≤ 7) (h : ¬ (i < n ∧ i < 7)) (hd : ∀ x ∈ xs.take i, 48 ≤ x ∧ x < 58) => (show numD 0 (xs.take i) = numQ xs by
  have e : xs.take i = xs.take 7 := by
   rcases Nat.lt_or_ge i 7 with h5 | h5
   · rw [List.take_of_length_le (by rw [HSL.out]; omega), List.take_of_length_le (by rw [HSL.out]; omega)]
   · rw [show i = 7 by omega]
  rw [e] at hd ⊢
  rw [numQ, if_pos hd]))
 have HBAD := hide (fun (i : Nat) (h1 : i < n) (h2 : i < 7) (h : xs.getD i 0 < 48 ∨ 57 < xs.getD i 0) => (show numQ xs = 0 by
  rw [numQ, if_neg];intro hall
  have hm : xs[i]'(by rw [HSL.out]; exact h1) ∈ xs.take 7 := by
   rw [List.mem_iff_getElem];exact ⟨i, by rw [List.length_take, HSL.out]; omega, by simp⟩
  have := hall _ hm;rw [getD_el' xs i (by rw [HSL.out]; exact h1)] at h
  omega))
 go_enter Tryz.func55, Tryz.ntmps55
 go_wp2_with fail
 go_loopw [3, 4] (fun v3 v4 wr => ∃ (i : Nat) (m : Int), i ≤ n ∧ i ≤ 7 ∧ v4 = .int .i64 i ∧ v3 = .int .i64 m ∧ numD 0 (xs.take i) = m ∧ (∀ x ∈ xs.take i, 48 ≤ x ∧ x < 58) ∧ Below w.heap.size w wr) (fun _ v4 _ => n - (intOf v4).toNat)
 case atStart => exact ⟨0, 0, by omega, by omega, rfl, rfl, rfl, by simp, Below.refl _ _⟩
 case round =>
  obtain ⟨i, m, hi, hi5, rfl, rfl, hm, hdg, hbel⟩ := hrel;have HM := hide hm;have HBL := hide hbel;have HDG := hide hdg;clear hm hbel hdg
  by_cases hit : i < n ∧ i < 7
  · obtain ⟨hit, h5⟩ := hit
    have hat := HAT.out i (by omega);have HB := hide (HBX.out.at_ i);have HT := hide (numD_take xs i (by rw [HSL.out]; exact hit));have hsm := numD_small xs HBX.out i (by rw [HSL.out]; exact hi) (by omega);have HNO := hide (HBAD.out i hit h5);have HYES := hide (fun h1 h2 => take_digits (xs := xs) (i := i) (by rw [HSL.out]; exact hit) HDG.out h1 h2);rw [HM.out] at hsm HT;obtain ⟨x, HX⟩ : ∃ x, Hid (xs.getD i 0 = x) := ⟨_, hide rfl⟩;rw [HX.out] at hat HB HT HNO HYES;obtain ⟨hx0, hx1⟩ := HB.out;obtain ⟨hs0, hs1⟩ := hsm
    have i1 : (i : Int) < (s.size : Int) := by omega
    have i5 : (i : Int) < 7 := by omega
    have d1 : decide ((i : Int) < (s.size : Int)) = true := by simp; omega
    have d2 : decide ((i : Int) < 7) = true := by simp; omega
    by_cases hlo : x < 48
    · have d3 : decide (x < 48) = true := by simp; omega
      have HZ := hide (HNO.out (.inl hlo))
      go_wp2_with fail
      go_ret
      exact ⟨congrArg (fun z => Ending.returned (.int .i64 z)) HZ.out.symm, HBL.out⟩
    · have d3 : decide (x < 48) = false := by simp; omega
      by_cases hhi : 57 < x
      · have d4 : decide (57 < x) = true := by simp; omega
        have HZ := hide (HNO.out (.inr hhi))
        go_wp2_with fail
        go_ret
        exact ⟨congrArg (fun z => Ending.returned (.int .i64 z)) HZ.out.symm, HBL.out⟩
      · have d4 : decide (57 < x) = false := by simp; omega
        have HYY := hide (HYES.out (by omega) (by omega));have w1 : IntKind.i64.wrap (10 * m) = 10 * m := IntWalk.i64_in _ (by omega)
        have w3 : IntKind.u8.wrap (x - 48) = x - 48 := by show (x - 48) % 256 = _; omega
        have w4 : IntKind.i64.wrap (x - 48) = x - 48 := IntWalk.i64_in _ (by omega);have w2 : IntKind.i64.wrap (10 * m + (x - 48)) = 10 * m + (x - 48) := IntWalk.i64_in _ (by omega)
        go_wp2_with fail
        go_roundw
        case measure => simp [intOf]; omega
        case rel => exact ⟨i + 1, 10 * m + (x - 48), by omega, by omega, by go_num, by first | rfl | go_num, by rw [HT.out]; omega, HYY.out, HBL.out⟩
  · have HE := hide (HDONE.out i hi hi5 hit HDG.out)
    rw [HM.out] at HE
    by_cases h1 : i < n
    · have i1 : (i : Int) < (s.size : Int) := by omega
      have i5 : ¬ (i : Int) < 7 := by omega
      have d1 : decide ((i : Int) < (s.size : Int)) = true := by simp; omega
      have d2 : decide ((i : Int) < 7) = false := by simp; omega
      go_wp2_with fail
      go_ret
      exact ⟨congrArg (fun z => Ending.returned (.int .i64 z)) HE.out, HBL.out⟩
    · have i1 : ¬ (i : Int) < (s.size : Int) := by omega
      have d1 : decide ((i : Int) < (s.size : Int)) = false := by simp; omega
      go_wp2_with fail
      go_ret
      exact ⟨congrArg (fun z => Ending.returned (.int .i64 z)) HE.out, HBL.out⟩
end Go.Proofs.YthdjgebbjogmiaaGreatDoor
