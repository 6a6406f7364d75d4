/- The reference's rows. -/
import Derived.Test.YtfinfkodjkfibaaDoorDigits
namespace Go.Proofs.YtfinfkodjkfibaaDoor
open Go Go.RowKit Go.ChangeShapes Go.WideShapes Go.ChangeAt
set_option linter.unusedVariables false

set_option maxHeartbeats 1000000 in
theorem Net_ref (v : Value) (xs : List Int) (w : World) (hv : Bs w w.heap.size v xs) (hb : Bytes xs) (hn : xs.length ≤ 70368744177664) :
    Calls Tryd.prog 31 #[v] w fun e w' => ∃ v', e = .returned v' ∧ RowB w' w.heap.size v' (netF xs) ∧ Below w.heap.size w w' := by
  have HV := hide hv
  have HBX := hide hb
  obtain ⟨A, c, rfl, h1, h2, h3⟩ := hv.open_
  unfold maxLen at h2
  obtain ⟨n, HN⟩ : ∃ n, Hid (xs.length = n) := ⟨_, hide rfl⟩
  have HNF := hide (show netF xs = digB n ++ [58] ++ xs ++ [44] by rw [netF, HN.out])
  rw [HN.out] at h1 hn HV
  rw [HN.out]
  have HDL := hide (digits_bound n (by omega))
  have HDB := hide (digB_bytes n)
  obtain ⟨dd, HDD⟩ : ∃ d, Hid (digB n = d) := ⟨_, hide rfl⟩
  rw [HDD.out] at HNF HDL HDB
  clear hv hb h3
  go_enter Tryd.func31, Tryd.ntmps31
  go_wp2_with fail
  refine (Digits_ref n (by omega) w).mono ?_
  rintro e w1 ⟨s, rfl, hs, hb1⟩
  rw [HDD.out] at hs
  have hsl : s.size ≤ 19 := by rw [← strB_len, hs]; exact HDL.out
  have HS := hide hs
  have HB1 := hide hb1
  have hz1 := hb1.size
  clear hs hb1
  go_wp2_with (first
    | (refine wpList_to_bytes rfl _ rfl s rfl (by unfold maxLen; omega) ?_; intro v7 w2 ho7 hb2; have HO7 := hide ho7; have HB2 := hide hb2; have hz2 := hb2.size; clear ho7 hb2)
    | (refine wpList_lit rfl _ _ rfl [58] rfl (by omega) (by omega) rfl ?_; intro g3 w3 bk3 hg3 hb3; have HL3 := hide ((RowB.of_blk (base := 0) bk3 (by omega) (show Bytes [58] from fun x hx => by simp at hx; omega) (by decide)).reads); have HO7' := hide ((HO7.out.keptB hb3).more hz1); rw [HS.out] at HO7'; have HB3 := hide ((HB1.out.trans (HB2.out.mono hz1)).trans (hb3.mono (by omega))); have hz3 := hb3.size; clear bk3 hg3 hb3 HO7)
    | (at_builtin; refine wpList_append_B rfl _ _ rfl w.heap.size _ _ rfl HO7'.out _ _ [58] rfl HL3.out (by intro x hx; simp at hx; omega) (by have := HDL.out; simp; omega) (by omega) ?_; intro v9 w4 ho9 hg4; have hz4 := hg4.size; have HB4 := hide (HB3.out.grown hg4 (by omega) (fun k hk => (HO7'.out.base_ k hk).1)); have HO9 := hide ho9; have HV4 := hide (HV.out.below HB4.out (Nat.le_refl _)); clear ho9 hg4 HB3 HO7' HL3)
    | (at_builtin; refine wpList_append_B rfl _ _ rfl w.heap.size _ _ rfl HO9.out _ _ xs rfl HV4.out HBX.out (by have := HDL.out; simp [HN.out]; omega) (by omega) ?_; intro v12 w5 ho12 hg5; have hz5 := hg5.size; have HB5 := hide (HB4.out.grown hg5 (by omega) (fun k hk => (HO9.out.base_ k hk).1)); have HO12 := hide ho12; clear ho12 hg5 HB4 HO9 HV4)
    | (refine wpList_lit rfl _ _ rfl [44] rfl (by omega) (by omega) rfl ?_; intro g6 w6 bk6 hg6 hb6; have HL6 := hide ((RowB.of_blk (base := 0) bk6 (by omega) (show Bytes [44] from fun x hx => by simp at hx; omega) (by decide)).reads); have HO13 := hide (HO12.out.keptB hb6); have HB6 := hide (HB5.out.trans (hb6.mono (by omega))); have hz6 := hb6.size; clear bk6 hg6 hb6 HO12 HB5)
    | (at_builtin; refine wpList_append_B rfl _ _ rfl w.heap.size _ _ rfl HO13.out _ _ [44] rfl HL6.out (by intro x hx; simp at hx; omega) (by have := HDL.out; simp [HN.out]; omega) (by omega) ?_; intro v15 w7 ho15 hg7; have HB7 := hide (HB6.out.grown hg7 (by omega) (fun k hk => (HO13.out.base_ k hk).1)); have HO15 := hide ho15; clear ho15 hg7 HB6 HO13 HL6))
  go_ret
  exact ⟨_, rfl, by rw [HNF.out]; exact HO15.out, HB7.out⟩

set_option maxHeartbeats 1000000 in
theorem Nets_ref (v : Value) (rows : List (List Int)) (w : World) (hv : RowsB w w.heap.size v rows) (hb : ∀ x ∈ rows, Bytes x) (hl : ∀ x ∈ rows, x.length ≤ 1000000) (hn : rows.length ≤ 1000000) :
    Calls Tryd.prog 39 #[v] w fun e w' => ∃ v', e = .returned v' ∧ RowB w' w.heap.size v' (netsF rows) ∧ Below w.heap.size w w' := by
  have HV := hide hv
  have HBX := hide hb
  have HLX := hide hl
  obtain ⟨A, c, rfl, h1, h2, h3⟩ := hv.open_
  unfold maxLen at h2
  obtain ⟨n, HN⟩ : ∃ n, Hid (rows.length = n) := ⟨_, hide rfl⟩
  rw [HN.out] at h1 hn
  have HVV := hide (fun (w' : World) (hb : Below w.heap.size w w') => (hv.below hb (Nat.le_refl _)).open_)
  rw [HN.out]
  clear hv hb hl h3
  go_enter Tryd.func39, Tryd.ntmps39
  go_wp2_with fail
  go_loopw [3, 7] (fun v3 v7 wr => ∃ i : Nat, i ≤ n ∧ v7 = .int .i64 i ∧ RowB wr w.heap.size v3 (netsF (rows.take i)) ∧ Below w.heap.size w wr) (fun _ v7 _ => n - (intOf v7).toNat)
  case atStart => exact ⟨0, by omega, rfl, RowB.nil_ _ _, Below.refl _ _⟩
  case round =>
    obtain ⟨i, hi, rfl, ho, hbel⟩ := hrel
    have HO := hide ho
    have HB := hide hbel
    have hwz := hbel.size
    clear ho hbel
    by_cases hit : i < n
    · obtain ⟨A', c', e', _, _, h3⟩ := HVV.out wr HB.out
      injection e' with e1 e2 e3
      rw [← e1] at h3
      clear e1 e2 e3
      obtain ⟨b, o, rfl, hbb, hc⟩ := h3 (by rw [HN.out]; omega)
      obtain ⟨u, hu, hbu⟩ := hc i (by rw [HN.out]; exact hit)
      have hil : i < rows.length := by rw [HN.out]; exact hit
      have HBR := hide (HBX.out _ (List.getElem_mem hil))
      have HLR := hide (HLX.out _ (List.getElem_mem hil))
      have HNT := hide (netsF_take rows i hil)
      have HLN := hide (netsF_len rows HLX.out i (by omega))
      obtain ⟨r, HR⟩ : ∃ r, Hid (rows[i] = r) := ⟨_, hide rfl⟩
      rw [HR.out] at HBR HLR HNT hbu
      have HBU := hide hbu
      have HNB := hide (netF_bytes HBR.out)
      have HNL := hide (netF_len r HLR.out)
      have i0 : (0 : Int) ≤ (i : Int) := by omega
      have i1 : (i : Int) < (n : Int) := by omega
      have HCALL := hide (Net_ref u r wr (HBU.out.more hwz) HBR.out (by have := HLR.out; omega))
      clear hc hbu h3
      go_wp2_with fail
      refine HCALL.out.mono ?_
      rintro e w2 ⟨v14, rfl, ho14, hb2⟩
      have HO14 := hide ho14
      have HO' := hide (HO.out.keptB hb2)
      have HB2 := hide (HB.out.trans (hb2.mono hwz))
      have hz2 := hb2.size
      clear ho14 hb2 HO HB HCALL
      go_wp2_with (at_builtin; go_must (refine wpList_append_B rfl _ _ rfl w.heap.size _ _ rfl HO'.out _ _ (netF r) rfl HO14.out.reads HNB.out (by have := HNL.out; have := HLN.out; omega) (by omega) ?_); intro v15 w3 ho15 hg15; have HB3 := hide (HB2.out.grown hg15 (by omega) (fun k hk => (HO'.out.base_ k hk).1)); rw [← HNT.out] at ho15; have HO15 := hide ho15; clear ho15 hg15)
      go_roundw
      case measure => simp [intOf]; omega
      case rel => exact ⟨i + 1, by omega, by go_num, HO15.out, HB3.out⟩
    · have e : i = n := by omega
      subst e
      have i1 : ¬ (i : Int) < (i : Int) := by omega
      have HF := hide (show rows.take i = rows from List.take_of_length_le (by rw [HN.out]; exact Nat.le_refl _))
      rw [HF.out] at HO
      go_wp2_with fail
      go_ret
      exact ⟨_, rfl, HO.out, HB.out⟩
end Go.Proofs.YtfinfkodjkfibaaDoor
