/- aumbrykeep.Rows of rows of bytes: whether they are the same. No condition. -/
import Derived.Test.YtijhcdmjiclnnaaDoorRowsB
import Derived.Test.YtijhcdmjiclnnaaDoorKeep
import Derived.Test.YtijhcdmjiclnnaaDoorTakeD
namespace Go.Proofs.YtijhcdmjiclnnaaDoor
open Go Go.RowKit

set_option maxHeartbeats 1000000 in
theorem rows_bytes (va vb : Value) (ps qs : List (List Int)) (w : World) (ha : RowsB w w.heap.size va ps) (hb : RowsB w w.heap.size vb qs) :
    Calls Tryd.prog 17 #[va, vb] w fun e w' => e = .returned (.bool (decide (ps = qs))) ∧ Below w.heap.size w w' := by
  have HA := hide (fun (w' : World) (h : Below w.heap.size w w') => ha.below h (Nat.le_refl _))
  have HBB := hide (fun (w' : World) (h : Below w.heap.size w w') => hb.below h (Nat.le_refl _))
  obtain ⟨A, c, rfl, h1, h2, h3⟩ := ha.open_
  obtain ⟨B, d, rfl, k1, k2, k3⟩ := hb.open_
  unfold maxLen at h2 k2
  obtain ⟨n, HN⟩ : ∃ n, Hid (ps.length = n) := ⟨_, hide rfl⟩
  obtain ⟨m, HM⟩ : ∃ n, Hid (qs.length = n) := ⟨_, hide rfl⟩
  have HD := hide (show ps = qs → n = m from fun h => by rw [← HN.out, ← HM.out, h])
  have HAO := hide (fun (w' : World) (h : Below w.heap.size w w') => (HA.out w' h).open_)
  have HBO := hide (fun (w' : World) (h : Below w.heap.size w w') => (HBB.out w' h).open_)
  rw [HN.out] at h1
  rw [HM.out] at k1
  rw [HN.out, HM.out]
  clear ha hb h3 k3
  go_enter Tryd.func17, Tryd.ntmps17
  by_cases hnm : n = m
  case neg =>
    have g1 : ((n : Int) != (m : Int)) = true := by simp; omega
    have HF := hide (show decide (ps = qs) = false from decide_eq_false fun h => hnm (HD.out h))
    go_wp2_with fail
    go_ret
    exact ⟨by rw [HF.out]; rfl, Below.refl _ _⟩
  subst hnm
  have g1 : ((n : Int) != (n : Int)) = false := by simp
  go_wp2_with fail
  go_loopw [5] (fun v5 wr => ∃ i : Nat, i ≤ n ∧ v5 = .int .i64 i ∧ ps.take i = qs.take i ∧ Below w.heap.size w wr) (fun v5 _ => n - (intOf v5).toNat)
  case atStart => exact ⟨0, by omega, rfl, rfl, Below.refl _ _⟩
  case round =>
    obtain ⟨i, hi, rfl, heq, hbel⟩ := hrel
    have HE := hide heq
    have HB := hide hbel
    have hwz := hbel.size
    clear heq hbel
    by_cases hit : i < n
    · obtain ⟨A', c', e', _, _, h3⟩ := HAO.out wr HB.out
      injection e' with e1 e2 e3
      rw [← e1] at h3
      clear e1 e2 e3
      obtain ⟨B', d', e', _, _, k3⟩ := HBO.out wr HB.out
      injection e' with e1 e2 e3
      rw [← e1] at k3
      clear e1 e2 e3
      obtain ⟨b, o, rfl, hbb, hc⟩ := h3 (by rw [HN.out]; omega)
      obtain ⟨b2, o2, rfl, hbb2, hc2⟩ := k3 (by rw [HM.out]; omega)
      obtain ⟨u, hu, hbu⟩ := hc i (by rw [HN.out]; exact hit)
      obtain ⟨u2, hu2, hbu2⟩ := hc2 i (by rw [HM.out]; exact hit)
      have hip : i < ps.length := by rw [HN.out]; exact hit
      have hiq : i < qs.length := by rw [HM.out]; exact hit
      have HTP := hide (List.take_succ_eq_append_getElem hip)
      have HTQ := hide (List.take_succ_eq_append_getElem hiq)
      have HNE := hide (show ¬ ps[i] = qs[i] → ¬ ps = qs from fun h e => h (by subst e; rfl))
      obtain ⟨p, HP⟩ : ∃ r, Hid (ps[i] = r) := ⟨_, hide rfl⟩
      obtain ⟨q, HQ⟩ : ∃ r, Hid (qs[i] = r) := ⟨_, hide rfl⟩
      rw [HP.out] at HTP hbu HNE
      rw [HQ.out] at HTQ hbu2 HNE
      have HU := hide hbu
      have HU2 := hide hbu2
      have i0 : (0 : Int) ≤ (i : Int) := by omega
      have i1 : (i : Int) < (n : Int) := by omega
      clear hc hc2 h3 k3 hbu hbu2 HP HQ
      have HSAME := hide (fun (w' : World) (h : Below wr.heap.size wr w') => same_bytes u u2 p q w' w'.heap.size ((HU.out.below h hwz).more (by have := h.size; omega)) ((HU2.out.below h hwz).more (by have := h.size; omega)) (Nat.le_refl _))
      go_wp2_with fail
      refine wp_region_held_drew (S := fun w' => Below wr.heap.size wr w') (by kernel_rfl) (Below.refl _ _).drew (fun hHeld => ?_)
      refine take_d 17 (i := 0) (v := .slice (some ⟨b, o, none⟩) n c) rfl (by kernel_rfl) (by kernel_rfl) (by kernel_rfl) (by kernel_rfl) (fun _ _ _ h => h) (Or.inl ⟨by kernel_rfl, fun w' hS => by go_simp⟩) hHeld ?_
      refine take_d 18 (i := 1) (v := .int .i64 (i : Int)) rfl (by kernel_rfl) (by kernel_rfl) (by kernel_rfl) (by kernel_rfl) (fun _ _ _ h => h) (Or.inl ⟨by kernel_rfl, fun w' hS => by go_simp⟩) hHeld ?_
      refine take_d 19 (i := 2) (v := .pointer (some ⟨b, o + i, none⟩)) rfl (by kernel_rfl) (by kernel_rfl) (by kernel_rfl) (by kernel_rfl) (fun _ _ _ h => h) (Or.inl ⟨by kernel_rfl, fun w' hS => by go_simp⟩) hHeld ?_
      refine take_d 20 (i := 3) (v := u) rfl (by kernel_rfl) (by kernel_rfl) (by kernel_rfl) (by kernel_rfl) (fun _ _ _ h => h) (Or.inl ⟨by kernel_rfl, fun w' hS => by (have cu : w'.cell? ⟨b, o + i, none⟩ = some u := (hS.cell (p := ⟨b, o + i, none⟩) (by simp; omega)).trans hu); go_simp⟩) hHeld ?_
      refine take_d 21 (i := 4) (v := .slice (some ⟨b2, o2, none⟩) n d) rfl (by kernel_rfl) (by kernel_rfl) (by kernel_rfl) (by kernel_rfl) (fun _ _ _ h => h) (Or.inl ⟨by kernel_rfl, fun w' hS => by go_simp⟩) hHeld ?_
      refine take_d 22 (i := 5) (v := .int .i64 (i : Int)) rfl (by kernel_rfl) (by kernel_rfl) (by kernel_rfl) (by kernel_rfl) (fun _ _ _ h => h) (Or.inl ⟨by kernel_rfl, fun w' hS => by go_simp⟩) hHeld ?_
      refine take_d 23 (i := 6) (v := .pointer (some ⟨b2, o2 + i, none⟩)) rfl (by kernel_rfl) (by kernel_rfl) (by kernel_rfl) (by kernel_rfl) (fun _ _ _ h => h) (Or.inl ⟨by kernel_rfl, fun w' hS => by go_simp⟩) hHeld ?_
      refine take_d 24 (i := 7) (v := u2) rfl (by kernel_rfl) (by kernel_rfl) (by kernel_rfl) (by kernel_rfl) (fun _ _ _ h => h) (Or.inl ⟨by kernel_rfl, fun w' hS => by (have cu : w'.cell? ⟨b2, o2 + i, none⟩ = some u2 := (hS.cell (p := ⟨b2, o2 + i, none⟩) (by simp; omega)).trans hu2); go_simp⟩) hHeld ?_
      simp only [Act.put, List.setIfInBounds_toArray, List.set_cons_zero, List.set_cons_succ]
      refine wpAnyH_ready (rs := [8]) (by kernel_rfl) (by simp) (AllReadyH.cons rfl (fun K hK => ?_) AllReadyH.nil)
      rw [if_pos (by kernel_rfl)]
      go_simp
      refine (HSAME.out _ hHeld).mono ?_
      rintro e w2 ⟨rfl, hb2⟩
      go_simp
      refine hK.out _ _ (hHeld.trans (hb2.mono hHeld.size)) (fun hHeld => ?_)
      clear hK K hb2
      try simp only [Act.put, List.setIfInBounds_toArray, List.set_cons_zero, List.set_cons_succ]
      by_cases hpq : p = q
      · rw [decide_eq_true hpq]
        refine take_d 26 (i := 9) (v := .bool false) rfl (by kernel_rfl) (by kernel_rfl) (by kernel_rfl) (by kernel_rfl) (fun _ _ _ h => h) (Or.inl ⟨by kernel_rfl, fun w' hS => by go_simp⟩) hHeld ?_
        simp only [Act.put, List.setIfInBounds_toArray, List.set_cons_zero, List.set_cons_succ]
        refine wpAnyH_done (by kernel_rfl) ?_ _
        have HBE := hide (HB.out.trans (hHeld.mono hwz))
        have HEE := hide (show ps.take (i + 1) = qs.take (i + 1) by rw [HTP.out, HTQ.out, HE.out, hpq])
        clear hHeld HSAME
        go_wp2_with fail
        go_roundw
        case measure => simp [intOf]; omega
        case rel => exact ⟨i + 1, by omega, by go_num, HEE.out, HBE.out⟩
      · rw [decide_eq_false hpq]
        refine take_d 26 (i := 9) (v := .bool true) rfl (by kernel_rfl) (by kernel_rfl) (by kernel_rfl) (by kernel_rfl) (fun _ _ _ h => h) (Or.inl ⟨by kernel_rfl, fun w' hS => by go_simp⟩) hHeld ?_
        simp only [Act.put, List.setIfInBounds_toArray, List.set_cons_zero, List.set_cons_succ]
        refine wpAnyH_done (by kernel_rfl) ?_ _
        have HBE := hide (HB.out.trans (hHeld.mono hwz))
        have HF := hide (show decide (ps = qs) = false from decide_eq_false (HNE.out hpq))
        clear hHeld HSAME
        go_wp2_with fail
        go_ret
        exact ⟨by rw [HF.out]; rfl, HBE.out⟩
    · have e : i = n := by omega
      subst e
      have i1 : ¬ (i : Int) < (i : Int) := by omega
      have HF := hide (show decide (ps = qs) = true from decide_eq_true (by
        have := HE.out
        rwa [List.take_of_length_le (by rw [HN.out]; exact Nat.le_refl _), List.take_of_length_le (by rw [HM.out]; exact Nat.le_refl _)] at this))
      go_wp2_with fail
      go_ret
      exact ⟨by rw [HF.out]; rfl, HB.out⟩
end Go.Proofs.YtijhcdmjiclnnaaDoor
