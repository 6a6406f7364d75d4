/- code.Nets: rows with their lengths, one behind the other. Condition: at most a million rows of at most a million bytes. -/
import Derived.Test.YtfinfkodjkfibaaDoorRowsB
import Derived.Test.YtfinfkodjkfibaaDoorNetAll
namespace Go.Proofs.YtfinfkodjkfibaaDoor
open Go Go.RowKit

theorem netF_len (x : List Int) (h : x.length ≤ 1000000) : (netF x).length ≤ 1000021 := by
  have := digits_bound x.length (by omega)
  rw [netF]; simp; omega
theorem netsF_take (l : List (List Int)) (i : Nat) (h : i < l.length) : netsF (l.take (i + 1)) = netsF (l.take i) ++ netF l[i] := by
  unfold netsF
  rw [List.take_succ_eq_append_getElem h, List.map_append, List.flatten_append]
  simp
theorem netsF_len (l : List (List Int)) (h : ∀ x ∈ l, x.length ≤ 1000000) : ∀ i, i ≤ l.length → (netsF (l.take i)).length ≤ i * 1000021
  | 0, _ => by simp [netsF]
  | i + 1, hi => by
    rw [netsF_take l i (by omega), List.length_append]
    have h1 := netsF_len l h i (by omega)
    have h2 := netF_len l[i] (h _ (List.getElem_mem _))
    omega
theorem netsF_bytes (l : List (List Int)) (h : ∀ x ∈ l, Bytes x) : Bytes (netsF l) := fun x hx => by
  unfold netsF at hx
  obtain ⟨y, hy, hx⟩ := List.mem_flatten.1 hx
  obtain ⟨z, hz, rfl⟩ := List.mem_map.1 hy
  exact netF_bytes (h z hz) x hx

set_option maxHeartbeats 1000000 in
theorem Nets_any (v : Value) (rows : List (List Int)) (w : World) (hv : RowsB w w.heap.size v rows) (hb : ∀ x ∈ rows, Bytes x) (hl : ∀ x ∈ rows, x.length ≤ 1000000) (hn : rows.length ≤ 1000000) (ht : Tab w w.heap.size) :
    Calls Tryd.prog 28 #[v] w fun e w' => ∃ v', e = .returned v' ∧ RowB w' w.heap.size v' (netsF rows) ∧ Below w.heap.size w w' := by
  have HV := hide hv
  have HBX := hide hb
  have HLX := hide hl
  have HT := hide ht
  obtain ⟨A, c, rfl, h1, h2, h3⟩ := hv.open_
  unfold maxLen at h2
  obtain ⟨n, HN⟩ : ∃ n, Hid (rows.length = n) := ⟨_, hide rfl⟩
  rw [HN.out] at h1 hn
  have HVV := hide (fun (w' : World) (hb : Below w.heap.size w w') => (hv.below hb (Nat.le_refl _)).open_)
  rw [HN.out]
  clear hv hb hl h3 ht
  go_enter Tryd.func28, Tryd.ntmps28
  go_wp2_with fail
  go_loopw [3, 8] (fun v3 v8 wr => ∃ i : Nat, i ≤ n ∧ v8 = .int .i64 i ∧ RowB wr w.heap.size v3 (netsF (rows.take i)) ∧ Below w.heap.size w wr) (fun _ v8 _ => n - (intOf v8).toNat)
  case atStart => exact ⟨0, by omega, rfl, RowB.nil_ _ _, Below.refl _ _⟩
  case round =>
    obtain ⟨i, hi, rfl, ho, hbel⟩ := hrel
    have HO := hide ho
    have HB := hide hbel
    have hwz := hbel.size
    clear ho hbel
    by_cases hit : i < n
    · obtain ⟨A', c', e', _, _, h3⟩ := HVV.out wr HB.out
      injection e' with e1 e2 e3
      rw [← e1] at h3
      clear e1 e2 e3
      obtain ⟨b, o, rfl, hbb, hc⟩ := h3 (by rw [HN.out]; omega)
      obtain ⟨u, hu, hbu⟩ := hc i (by rw [HN.out]; exact hit)
      have hil : i < rows.length := by rw [HN.out]; exact hit
      have HBR := hide (HBX.out _ (List.getElem_mem hil))
      have HLR := hide (HLX.out _ (List.getElem_mem hil))
      have HNT := hide (netsF_take rows i hil)
      have HLN := hide (netsF_len rows HLX.out i (by omega))
      obtain ⟨r, HR⟩ : ∃ r, Hid (rows[i] = r) := ⟨_, hide rfl⟩
      rw [HR.out] at HBR HLR HNT hbu
      have HBU := hide hbu
      have HNB := hide (netF_bytes HBR.out)
      have HNL := hide (netF_len r HLR.out)
      have i0 : (0 : Int) ≤ (i : Int) := by omega
      have i1 : (i : Int) < (n : Int) := by omega
      have HCALL := hide (Net_any u r wr (HBU.out.more hwz) HBR.out (by have := HLR.out; omega) ((HT.out.below HB.out (Nat.le_refl _)).more hwz))
      clear hc hbu h3
      go_wp2_with fail
      refine HCALL.out.mono ?_
      rintro e w2 ⟨v14, rfl, ho14, hb2⟩
      have HO14 := hide ho14
      have HO' := hide (HO.out.keptB hb2)
      have HB2 := hide (HB.out.trans (hb2.mono hwz))
      have hz2 := hb2.size
      clear ho14 hb2 HO HB HCALL
      go_wp2_with (at_builtin; go_must (refine wpList_append_B rfl _ _ rfl w.heap.size _ _ rfl HO'.out _ _ (netF r) rfl HO14.out.reads HNB.out (by have := HNL.out; have := HLN.out; omega) (by omega) ?_); intro v15 w3 ho15 hg15; have HB3 := hide (HB2.out.grown hg15 (by omega) (fun k hk => (HO'.out.base_ k hk).1)); rw [← HNT.out] at ho15; have HO15 := hide ho15; clear ho15 hg15)
      go_roundw
      case measure => simp [intOf]; omega
      case rel => exact ⟨i + 1, by omega, by go_num, HO15.out, HB3.out⟩
    · have e : i = n := by omega
      subst e
      have i1 : ¬ (i : Int) < (i : Int) := by omega
      have HF := hide (show rows.take i = rows from List.take_of_length_le (by rw [HN.out]; exact Nat.le_refl _))
      rw [HF.out] at HO
      go_wp2_with fail
      go_ret
      exact ⟨_, rfl, HO.out, HB.out⟩
end Go.Proofs.YtfinfkodjkfibaaDoor
