/- A list of bytes, and a list of lists of bytes, in new memory. -/
import Derived.Test.YtijhcdmjiclnnaaDoorRowsEq
import Derived.Test.YtijhcdmjiclnnaaDoorNets
namespace Go.Proofs.YtijhcdmjiclnnaaDoor
open Go Go.RowKit Go.ChangeShapes Go.WideShapes Go.ChangeAt
set_option linter.unusedVariables false

set_option maxHeartbeats 400000 in
theorem copy_B (v : Value) (xs : List Int) (w : World) (B : Nat) (h : Bs w B v xs) (hx : Bytes xs) (hb : xs.length ≤ 140737488355328) :
    Calls Tryd.prog 39 #[v] w fun e w' => ∃ v', e = .returned v' ∧ RowB w' w.heap.size v' xs ∧ Below w.heap.size w w' := by
  have HV := hide h
  have HX := hide hx
  clear h hx
  go_enter Tryd.func39, Tryd.ntmps39
  go_wp2_with (at_builtin; go_must (refine wpList_append_B rfl _ _ rfl w.heap.size _ [] rfl (RowB.nil_ _ _) _ _ xs rfl HV.out HX.out (by simp; omega) (Nat.le_refl _) ?_); intro v' w' ho hg; rw [List.nil_append] at ho; have HO := hide ho; have HB := hide ((Below.refl w.heap.size w).grown hg (Nat.le_refl _) (fun k hk => ((RowB.nil_ w w.heap.size).base_ k hk).1)); clear ho hg; go_wp2_with fail)
  go_ret
  exact ⟨_, rfl, HO.out, HB.out⟩

set_option maxHeartbeats 1000000 in
theorem copyRows_any (v : Value) (rows : List (List Int)) (w : World) (hv : RowsB w w.heap.size v rows) (hb : ∀ x ∈ rows, Bytes x) (hl : ∀ x ∈ rows, x.length ≤ 1000000) (hn : rows.length ≤ 1000000) :
    Calls Tryd.prog 14 #[v] w fun e w' => ∃ v', e = .returned v' ∧ OwnRows w' w.heap.size v' rows ∧ Below w.heap.size w w' := by
  have HBX := hide hb
  have HLX := hide hl
  obtain ⟨A, c, rfl, h1, h2, h3⟩ := hv.open_
  unfold maxLen at h2
  obtain ⟨n, HN⟩ : ∃ n, Hid (rows.length = n) := ⟨_, hide rfl⟩
  rw [HN.out] at h1 hn
  have HVV := hide (fun (w' : World) (hb : Below w.heap.size w w') => (hv.below hb (Nat.le_refl _)).open_)
  rw [HN.out]
  clear hv hb hl h3
  go_enter Tryd.func14, Tryd.ntmps14
  go_wp2_with fail
  go_loopw [3, 7] (fun v3 v7 wr => ∃ i : Nat, i ≤ n ∧ v7 = .int .i64 i ∧ OwnRows wr w.heap.size v3 (rows.take i) ∧ Below w.heap.size w wr) (fun _ v7 _ => n - (intOf v7).toNat)
  case atStart => exact ⟨0, by omega, rfl, OwnRows.nil_ _ _, Below.refl _ _⟩
  case round =>
    obtain ⟨i, hi, rfl, ho, hbel⟩ := hrel
    have HO := hide ho
    have HB := hide hbel
    have hwz := hbel.size
    clear ho hbel
    by_cases hit : i < n
    · obtain ⟨A', c', e', _, _, h3⟩ := HVV.out wr HB.out
      injection e' with e1 e2 e3
      rw [← e1] at h3
      clear e1 e2 e3
      obtain ⟨b, o, rfl, hbb, hc⟩ := h3 (by rw [HN.out]; omega)
      obtain ⟨u, hu, hbu⟩ := hc i (by rw [HN.out]; exact hit)
      have hil : i < rows.length := by rw [HN.out]; exact hit
      have HBR := hide (HBX.out _ (List.getElem_mem hil))
      have HLR := hide (HLX.out _ (List.getElem_mem hil))
      have HTS := hide (List.take_succ_eq_append_getElem hil)
      have HTL := hide (show (rows.take i).length ≤ 1000000 by rw [List.length_take]; omega)
      obtain ⟨r, HR⟩ : ∃ r, Hid (rows[i] = r) := ⟨_, hide rfl⟩
      rw [HR.out] at HBR HLR HTS hbu
      obtain ⟨Q, HQ⟩ : ∃ r, Hid (rows.take i = r) := ⟨_, hide rfl⟩
      rw [HQ.out] at HTS HO HTL
      have HCALL := hide (copy_B u r wr w.heap.size hbu HBR.out (by have := HLR.out; omega))
      have i0 : (0 : Int) ≤ (i : Int) := by omega
      have i1 : (i : Int) < (n : Int) := by omega
      clear hc hbu h3
      go_wp2_with fail
      refine HCALL.out.mono ?_
      rintro e w2 ⟨v15, rfl, ho15, hb2⟩
      have HO15 := hide (ho15.more hwz)
      have HO' := hide (HO.out.keptB hb2 hwz)
      have HB2 := hide (HB.out.trans (hb2.mono hwz))
      have hz2 := hb2.size
      obtain ⟨A1, c1, rfl⟩ := ho15.shape
      clear ho15 hb2 HO HB HCALL
      go_wp2_with (at_builtin; go_must (refine wpList_append_row rfl _ _ rfl w.heap.size _ Q rfl HO'.out (by omega) _ r (.inr HO15.out) rfl HTL.out ?_); intro v17 w3 ho17 hb17 hk17; rw [← HTS.out] at ho17; have HO17 := hide ho17; have HB17 := hide (HB2.out.trans hb17); clear ho17 hb17 hk17)
      go_roundw
      case measure => simp [intOf]; omega
      case rel => exact ⟨i + 1, by omega, by go_num, HO17.out, HB17.out⟩
    · have e : i = n := by omega
      subst e
      have i1 : ¬ (i : Int) < (i : Int) := by omega
      have HF := hide (show rows.take i = rows from List.take_of_length_le (by rw [HN.out]; exact Nat.le_refl _))
      rw [HF.out] at HO
      go_wp2_with fail
      go_ret
      exact ⟨_, rfl, HO.out, HB.out⟩
end Go.Proofs.YtijhcdmjiclnnaaDoor
