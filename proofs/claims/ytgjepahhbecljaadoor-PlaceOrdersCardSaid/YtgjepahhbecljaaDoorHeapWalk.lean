/- The heap's rows of turns: how many, and which of two is before the other. No condition.
The heap's Swap: two turns of a row changed over. No condition.
An interface's turn: taken out of it. No condition.
The heap of turns behind a pointer: what a step on it leaves, and which function an interface's method is. No condition.
container/heap's up on a row of turns: an element's way up. Condition: the row is a heap but for that element.
container/heap's down on a row of turns: the first one's way down. Condition: the row is a heap but for that element.
The heap's rows: one laid behind, the last one taken; container/heap's Push and Pop. Condition: at most a thousand.
container/heap's Push and Pop on a row of turns. Condition: at most a thousand; the row is a heap. -/
import Derived.Test.YtgjepahhbecljaaDoorTurnCmp
import Derived.Test.YtgjepahhbecljaaDoorQuiet
import Derived.Test.YtgjepahhbecljaaDoorTakeD
import Derived.Test.YtgjepahhbecljaaDoorRowB
import Derived.Test.YtgjepahhbecljaaDoorHeapLaws
namespace Go.Proofs.YtgjepahhbecljaaDoor
open Go Go.RowKit
set_option linter.unusedVariables false
set_option linter.unusedSimpArgs false
section
variable {o : Oper} {a : Act} {w : World}
theorem exec_index_turn (x y : Operand) (ho : o.op = .indexAddr 81 x y) (g n c : Nat) (k : Int) (j : Nat) (hx : a.eval x = .slice (some ⟨g, 0, none⟩) n c) (hy : a.eval y = .int .i64 k) (hk : k = (j : Int)) (hj : j < n) : (execOp a.eval o).run Tryd.prog w = .ok (.value (.pointer (some ⟨g, j * 33, none⟩))) w := by
  subst hk
  unfold execOp
  simp only [ho, hx, hy]
  have h0 : (0 : Int) ≤ (j : Int) := by omega
  have h1 : (j : Int) < (n : Int) := by omega
  go_simp
theorem exec_field_turn (x : Operand) (k off : Nat) (ho : o.op = .fieldAddr 84 x k) (g b : Nat) (hx : a.eval x = .pointer (some ⟨g, b, none⟩)) (hk : [0, 1][k]? = some off) : (execOp a.eval o).run Tryd.prog w = .ok (.value (.pointer (some ⟨g, b + off, none⟩))) w := by
  unfold execOp
  simp only [ho, hx]
  have h7 : k < 2 := by have := (List.getElem?_eq_some_iff.1 hk).1; simpa using this
  obtain rfl | rfl : k = 0 ∨ k = 1 := by omega
  all_goals (simp at hk; subst hk; go_simp)
theorem exec_lss_int (x y : Operand) (t' : TypeId) (ho : o.op = .binOp .lss 3 x y t') (p q : Int) (hx : a.eval x = .int .i64 p) (hy : a.eval y = .int .i64 q) : (execOp a.eval o).run Tryd.prog w = .ok (.value (.bool (decide (p < q)))) w := by
  unfold execOp
  simp only [ho, hx, hy]
  go_simp
end
set_option maxRecDepth 100000
set_option maxHeartbeats 4000000
theorem turns_len (v : Value) (l : List Heap.T) (w : World) (base : Nat) (h : RowT w base v l) : Calls Tryd.prog 75 #[v] w fun e w' => e = .returned (.int .i64 (l.length : Int)) ∧ w = w' := by
  obtain ⟨A, c, rfl⟩ := h.shape
  clear h
  obtain ⟨n, HN⟩ : ∃ n : Nat, Hid (l.length = n) := ⟨_, hide rfl⟩
  rw [HN.out]
  go_enter Tryd.func75, Tryd.ntmps75
  go_wp2_with fail
  go_ret
  exact ⟨rfl, rfl⟩
theorem turns_less (v : Value) (l : List Heap.T) (w : World) (base i k : Nat) (h : RowT w base v l) (hi : i < l.length) (hk : k < l.length) :
    Calls Tryd.prog 131 #[v, .int .i64 (i : Int), .int .i64 (k : Int)] w fun e w' => e = .returned (.bool (decide (Heap.tlt (Heap.fn l i) (Heap.fn l k)))) ∧ w'.heap = w.heap ∧ Below w.heap.size w w' := by
  obtain ⟨g, c, rfl, hbg, hgw, hnc, hcm, hcell⟩ := h.open_ (by omega)
  have hw := h.2
  have e1 : Heap.fn l i = l[i] := Heap.getD_in l hi
  have e2 : Heap.fn l k = l[k] := Heap.getD_in l hk
  rw [e1, e2]
  have hi32 := hw _ (List.getElem_mem hi)
  have hk32 := hw _ (List.getElem_mem hk)
  have ci : ∀ j u, (turnC l[i])[j]? = some u → w.cell? ⟨g, i * 33 + j, none⟩ = some u := hcell i hi
  have ck : ∀ j u, (turnC l[k])[j]? = some u → w.cell? ⟨g, k * 33 + j, none⟩ = some u := hcell k hk
  obtain ⟨n, HN⟩ : ∃ n : Nat, Hid (l.length = n) := ⟨_, hide rfl⟩
  rw [HN.out] at hi hk hnc ⊢
  have hm : ∀ w' : World, w'.heap = w.heap → ∀ p : Addr, p.spot = none → w'.cell? p = w.cell? p := fun w' hw' p hp => by
    unfold World.cell?
    rw [hw', hp]
  obtain ⟨x, HX⟩ : ∃ x, Hid (l[i] = x) := ⟨_, hide rfl⟩
  obtain ⟨y, HY⟩ : ∃ x, Hid (l[k] = x) := ⟨_, hide rfl⟩
  rw [HX.out] at hi32 ci ⊢
  rw [HY.out] at hk32 ck ⊢
  obtain ⟨si, X⟩ := x
  obtain ⟨sk, Y⟩ := y
  have HCI := hide (fun (w' : World) (hS : w'.heap = w.heap ∧ Below w.heap.size w w') => show w'.cell? ⟨g, i * 33, none⟩ = some (.int .i64 si) from (hm w' hS.1 _ rfl).trans (ci 0 _ rfl))
  have HCK := hide (fun (w' : World) (hS : w'.heap = w.heap ∧ Below w.heap.size w w') => show w'.cell? ⟨g, k * 33, none⟩ = some (.int .i64 sk) from (hm w' hS.1 _ rfl).trans (ck 0 _ rfl))
  have hrow : ∀ (w' : World) (hS : w'.heap = w.heap) (b : Nat) (z : List Int) (hz : z.length = 32) (hc : ∀ j u, (turnC (0, z))[j + 1]? = some u → w.cell? ⟨g, b * 33 + (j + 1), none⟩ = some u), Bs w' w.heap.size (.slice (some ⟨g, b * 33 + 1, none⟩) 32 32) z := fun w' hS b z hz hc => by
    unfold Bs
    rw [hz]
    exact ⟨_, 32, rfl, Nat.le_refl _, by decide, by rw [u8s_len, hz], fun _ => ⟨g, b * 33 + 1, rfl, hgw, fun j u hu => by
      rw [hm w' hS _ rfl, show b * 33 + 1 + j = b * 33 + (j + 1) by omega]
      exact hc j u (by simpa [turnC] using hu)⟩⟩
  have HCMP0 := fun (w' : World) (hS : w'.heap = w.heap ∧ Below w.heap.size w w') => Compare_any (.slice (some ⟨g, i * 33 + 1, none⟩) 32 32) (.slice (some ⟨g, k * 33 + 1, none⟩) 32 32) X Y w' w.heap.size (hrow w' hS.1 i X hi32.1 (fun j u hu => ci (j + 1) u (by simpa [turnC] using hu))) (hrow w' hS.1 k Y hk32.1 (fun j u hu => ck (j + 1) u (by simpa [turnC] using hu))) hi32.2 hk32.2
  clear hrow hm ci ck hcell h hw hi32 hk32 e1 e2
  rcases Heap.cmpL_range X Y with hc | hc | hc
  · rw [hc] at HCMP0
    have HCMP := hide HCMP0
    have HRS := hide (show decide (Heap.tlt (si, X) (sk, Y)) = true from decide_eq_true (.inl hc))
    rw [HRS.out]
    clear HCMP0 hc
    go_enter Tryd.func131, Tryd.ntmps131
    go_upto_region 1 with fail
    refine wp_region_held_drew (S := fun w' => w'.heap = w.heap ∧ Below w.heap.size w w') (by kernel_rfl) ⟨rfl, (Below.refl _ _).drew⟩ (fun hHeld => ?_)
    refine take_d 8 (i := 0) (v := .slice (some ⟨g, 0, none⟩) n c) rfl (by kernel_rfl) (by kernel_rfl) (by kernel_rfl) (by kernel_rfl) (fun _ _ _ h => h) (Or.inl ⟨by kernel_rfl, fun w' hS => exec_move _ rfl _ rfl⟩) hHeld ?_
    try simp only [Act.put, List.setIfInBounds_toArray, List.set_cons_zero, List.set_cons_succ]
    refine take_d 9 (i := 1) (v := .int .i64 (i : Int)) rfl (by kernel_rfl) (by kernel_rfl) (by kernel_rfl) (by kernel_rfl) (fun _ _ _ h => h) (Or.inl ⟨by kernel_rfl, fun w' hS => exec_move _ rfl _ rfl⟩) hHeld ?_
    try simp only [Act.put, List.setIfInBounds_toArray, List.set_cons_zero, List.set_cons_succ]
    refine take_d 10 (i := 2) (v := .pointer (some ⟨g, i * 33, none⟩)) rfl (by kernel_rfl) (by kernel_rfl) (by kernel_rfl) (by kernel_rfl) (fun _ _ _ h => h) (Or.inl ⟨by kernel_rfl, fun w' hS => exec_index_turn _ _ rfl g n c (i : Int) i rfl rfl rfl (by omega)⟩) hHeld ?_
    try simp only [Act.put, List.setIfInBounds_toArray, List.set_cons_zero, List.set_cons_succ]
    refine take_d 11 (i := 3) (v := .pointer (some ⟨g, i * 33 + 1, none⟩)) rfl (by kernel_rfl) (by kernel_rfl) (by kernel_rfl) (by kernel_rfl) (fun _ _ _ h => h) (Or.inl ⟨by kernel_rfl, fun w' hS => exec_field_turn _ 1 1 rfl g (i * 33) rfl rfl⟩) hHeld ?_
    try simp only [Act.put, List.setIfInBounds_toArray, List.set_cons_zero, List.set_cons_succ]
    refine take_d 12 (i := 4) (v := .slice (some ⟨g, i * 33 + 1, none⟩) 32 32) rfl (by kernel_rfl) (by kernel_rfl) (by kernel_rfl) (by kernel_rfl) (fun _ _ _ h => h) (Or.inl ⟨by kernel_rfl, fun w' hS => exec_slice_hash _ rfl g (i * 33 + 1) rfl⟩) hHeld ?_
    try simp only [Act.put, List.setIfInBounds_toArray, List.set_cons_zero, List.set_cons_succ]
    refine take_d 13 (i := 5) (v := .slice (some ⟨g, 0, none⟩) n c) rfl (by kernel_rfl) (by kernel_rfl) (by kernel_rfl) (by kernel_rfl) (fun _ _ _ h => h) (Or.inl ⟨by kernel_rfl, fun w' hS => exec_move _ rfl _ rfl⟩) hHeld ?_
    try simp only [Act.put, List.setIfInBounds_toArray, List.set_cons_zero, List.set_cons_succ]
    refine take_d 14 (i := 6) (v := .int .i64 (k : Int)) rfl (by kernel_rfl) (by kernel_rfl) (by kernel_rfl) (by kernel_rfl) (fun _ _ _ h => h) (Or.inl ⟨by kernel_rfl, fun w' hS => exec_move _ rfl _ rfl⟩) hHeld ?_
    try simp only [Act.put, List.setIfInBounds_toArray, List.set_cons_zero, List.set_cons_succ]
    refine take_d 15 (i := 7) (v := .pointer (some ⟨g, k * 33, none⟩)) rfl (by kernel_rfl) (by kernel_rfl) (by kernel_rfl) (by kernel_rfl) (fun _ _ _ h => h) (Or.inl ⟨by kernel_rfl, fun w' hS => exec_index_turn _ _ rfl g n c (k : Int) k rfl rfl rfl (by omega)⟩) hHeld ?_
    try simp only [Act.put, List.setIfInBounds_toArray, List.set_cons_zero, List.set_cons_succ]
    refine take_d 16 (i := 8) (v := .pointer (some ⟨g, k * 33 + 1, none⟩)) rfl (by kernel_rfl) (by kernel_rfl) (by kernel_rfl) (by kernel_rfl) (fun _ _ _ h => h) (Or.inl ⟨by kernel_rfl, fun w' hS => exec_field_turn _ 1 1 rfl g (k * 33) rfl rfl⟩) hHeld ?_
    try simp only [Act.put, List.setIfInBounds_toArray, List.set_cons_zero, List.set_cons_succ]
    refine take_d 17 (i := 9) (v := .slice (some ⟨g, k * 33 + 1, none⟩) 32 32) rfl (by kernel_rfl) (by kernel_rfl) (by kernel_rfl) (by kernel_rfl) (fun _ _ _ h => h) (Or.inl ⟨by kernel_rfl, fun w' hS => exec_slice_hash _ rfl g (k * 33 + 1) rfl⟩) hHeld ?_
    try simp only [Act.put, List.setIfInBounds_toArray, List.set_cons_zero, List.set_cons_succ]
    refine wpAnyH_ready (rs := [10]) (by kernel_rfl) (by simp) (AllReadyH.cons rfl (fun K hK => ?_) AllReadyH.nil)
    rw [if_pos (by kernel_rfl)]
    try go_simp
    refine (HCMP.out _ hHeld).mono ?_
    rintro e w' ⟨rfl, rfl⟩
    refine hK.out _ _ hHeld (fun hHeld => ?_)
    clear hK K
    try simp only [Act.put, List.setIfInBounds_toArray, List.set_cons_zero, List.set_cons_succ]
    refine take_d 7 (i := 11) (v := .int .i64 (-1)) rfl (by kernel_rfl) (by kernel_rfl) (by kernel_rfl) (by kernel_rfl) (fun _ _ _ h => h) (Or.inl ⟨by kernel_rfl, fun w' hS => exec_assign _ rfl _ rfl⟩) hHeld ?_
    try simp only [Act.put, List.setIfInBounds_toArray, List.set_cons_zero, List.set_cons_succ]
    refine wpAnyH_done (by kernel_rfl) ?_ _
    have HH1 := hide hHeld.1
    have HB1 := hide hHeld.2
    clear hHeld
    go_wp2_with fail
    go_ret
    exact ⟨rfl, HH1.out, HB1.out⟩
  · rw [hc] at HCMP0
    have HCMP := hide HCMP0
    have HRS := hide (show decide (Heap.tlt (si, X) (sk, Y)) = decide (si < sk) from decide_eq_decide.2 ⟨fun h => by rcases h with h | h; · rw [show Heap.cmpL (si, X).2 (sk, Y).2 = Heap.cmpL X Y from rfl, hc] at h; cases h
                                                                                                                     · exact h.2, fun h => .inr ⟨hc, h⟩⟩)
    rw [HRS.out]
    clear HCMP0 hc
    go_enter Tryd.func131, Tryd.ntmps131
    go_upto_region 1 with fail
    refine wp_region_held_drew (S := fun w' => w'.heap = w.heap ∧ Below w.heap.size w w') (by kernel_rfl) ⟨rfl, (Below.refl _ _).drew⟩ (fun hHeld => ?_)
    refine take_d 8 (i := 0) (v := .slice (some ⟨g, 0, none⟩) n c) rfl (by kernel_rfl) (by kernel_rfl) (by kernel_rfl) (by kernel_rfl) (fun _ _ _ h => h) (Or.inl ⟨by kernel_rfl, fun w' hS => exec_move _ rfl _ rfl⟩) hHeld ?_
    try simp only [Act.put, List.setIfInBounds_toArray, List.set_cons_zero, List.set_cons_succ]
    refine take_d 9 (i := 1) (v := .int .i64 (i : Int)) rfl (by kernel_rfl) (by kernel_rfl) (by kernel_rfl) (by kernel_rfl) (fun _ _ _ h => h) (Or.inl ⟨by kernel_rfl, fun w' hS => exec_move _ rfl _ rfl⟩) hHeld ?_
    try simp only [Act.put, List.setIfInBounds_toArray, List.set_cons_zero, List.set_cons_succ]
    refine take_d 10 (i := 2) (v := .pointer (some ⟨g, i * 33, none⟩)) rfl (by kernel_rfl) (by kernel_rfl) (by kernel_rfl) (by kernel_rfl) (fun _ _ _ h => h) (Or.inl ⟨by kernel_rfl, fun w' hS => exec_index_turn _ _ rfl g n c (i : Int) i rfl rfl rfl (by omega)⟩) hHeld ?_
    try simp only [Act.put, List.setIfInBounds_toArray, List.set_cons_zero, List.set_cons_succ]
    refine take_d 11 (i := 3) (v := .pointer (some ⟨g, i * 33 + 1, none⟩)) rfl (by kernel_rfl) (by kernel_rfl) (by kernel_rfl) (by kernel_rfl) (fun _ _ _ h => h) (Or.inl ⟨by kernel_rfl, fun w' hS => exec_field_turn _ 1 1 rfl g (i * 33) rfl rfl⟩) hHeld ?_
    try simp only [Act.put, List.setIfInBounds_toArray, List.set_cons_zero, List.set_cons_succ]
    refine take_d 12 (i := 4) (v := .slice (some ⟨g, i * 33 + 1, none⟩) 32 32) rfl (by kernel_rfl) (by kernel_rfl) (by kernel_rfl) (by kernel_rfl) (fun _ _ _ h => h) (Or.inl ⟨by kernel_rfl, fun w' hS => exec_slice_hash _ rfl g (i * 33 + 1) rfl⟩) hHeld ?_
    try simp only [Act.put, List.setIfInBounds_toArray, List.set_cons_zero, List.set_cons_succ]
    refine take_d 13 (i := 5) (v := .slice (some ⟨g, 0, none⟩) n c) rfl (by kernel_rfl) (by kernel_rfl) (by kernel_rfl) (by kernel_rfl) (fun _ _ _ h => h) (Or.inl ⟨by kernel_rfl, fun w' hS => exec_move _ rfl _ rfl⟩) hHeld ?_
    try simp only [Act.put, List.setIfInBounds_toArray, List.set_cons_zero, List.set_cons_succ]
    refine take_d 14 (i := 6) (v := .int .i64 (k : Int)) rfl (by kernel_rfl) (by kernel_rfl) (by kernel_rfl) (by kernel_rfl) (fun _ _ _ h => h) (Or.inl ⟨by kernel_rfl, fun w' hS => exec_move _ rfl _ rfl⟩) hHeld ?_
    try simp only [Act.put, List.setIfInBounds_toArray, List.set_cons_zero, List.set_cons_succ]
    refine take_d 15 (i := 7) (v := .pointer (some ⟨g, k * 33, none⟩)) rfl (by kernel_rfl) (by kernel_rfl) (by kernel_rfl) (by kernel_rfl) (fun _ _ _ h => h) (Or.inl ⟨by kernel_rfl, fun w' hS => exec_index_turn _ _ rfl g n c (k : Int) k rfl rfl rfl (by omega)⟩) hHeld ?_
    try simp only [Act.put, List.setIfInBounds_toArray, List.set_cons_zero, List.set_cons_succ]
    refine take_d 16 (i := 8) (v := .pointer (some ⟨g, k * 33 + 1, none⟩)) rfl (by kernel_rfl) (by kernel_rfl) (by kernel_rfl) (by kernel_rfl) (fun _ _ _ h => h) (Or.inl ⟨by kernel_rfl, fun w' hS => exec_field_turn _ 1 1 rfl g (k * 33) rfl rfl⟩) hHeld ?_
    try simp only [Act.put, List.setIfInBounds_toArray, List.set_cons_zero, List.set_cons_succ]
    refine take_d 17 (i := 9) (v := .slice (some ⟨g, k * 33 + 1, none⟩) 32 32) rfl (by kernel_rfl) (by kernel_rfl) (by kernel_rfl) (by kernel_rfl) (fun _ _ _ h => h) (Or.inl ⟨by kernel_rfl, fun w' hS => exec_slice_hash _ rfl g (k * 33 + 1) rfl⟩) hHeld ?_
    try simp only [Act.put, List.setIfInBounds_toArray, List.set_cons_zero, List.set_cons_succ]
    refine wpAnyH_ready (rs := [10]) (by kernel_rfl) (by simp) (AllReadyH.cons rfl (fun K hK => ?_) AllReadyH.nil)
    rw [if_pos (by kernel_rfl)]
    try go_simp
    refine (HCMP.out _ hHeld).mono ?_
    rintro e w' ⟨rfl, rfl⟩
    refine hK.out _ _ hHeld (fun hHeld => ?_)
    clear hK K
    try simp only [Act.put, List.setIfInBounds_toArray, List.set_cons_zero, List.set_cons_succ]
    refine take_d 7 (i := 11) (v := .int .i64 0) rfl (by kernel_rfl) (by kernel_rfl) (by kernel_rfl) (by kernel_rfl) (fun _ _ _ h => h) (Or.inl ⟨by kernel_rfl, fun w' hS => exec_assign _ rfl _ rfl⟩) hHeld ?_
    try simp only [Act.put, List.setIfInBounds_toArray, List.set_cons_zero, List.set_cons_succ]
    refine wpAnyH_done (by kernel_rfl) ?_ _
    have HH1 := hide hHeld.1
    have HB1 := hide hHeld.2
    clear hHeld
    go_upto_region 4 with fail
    refine wp_region_held_drew (S := fun w' => w'.heap = w.heap ∧ Below w.heap.size w w') (by kernel_rfl) ⟨HH1.out, HB1.out.drew⟩ (fun hHeld => ?_)
    refine take_d 23 (i := 0) (v := .slice (some ⟨g, 0, none⟩) n c) rfl (by kernel_rfl) (by kernel_rfl) (by kernel_rfl) (by kernel_rfl) (fun _ _ _ h => h) (Or.inl ⟨by kernel_rfl, fun w' hS => exec_move _ rfl _ rfl⟩) hHeld ?_
    try simp only [Act.put, List.setIfInBounds_toArray, List.set_cons_zero, List.set_cons_succ]
    refine take_d 24 (i := 1) (v := .int .i64 (i : Int)) rfl (by kernel_rfl) (by kernel_rfl) (by kernel_rfl) (by kernel_rfl) (fun _ _ _ h => h) (Or.inl ⟨by kernel_rfl, fun w' hS => exec_move _ rfl _ rfl⟩) hHeld ?_
    try simp only [Act.put, List.setIfInBounds_toArray, List.set_cons_zero, List.set_cons_succ]
    refine take_d 25 (i := 2) (v := .pointer (some ⟨g, i * 33, none⟩)) rfl (by kernel_rfl) (by kernel_rfl) (by kernel_rfl) (by kernel_rfl) (fun _ _ _ h => h) (Or.inl ⟨by kernel_rfl, fun w' hS => exec_index_turn _ _ rfl g n c (i : Int) i rfl rfl rfl (by omega)⟩) hHeld ?_
    try simp only [Act.put, List.setIfInBounds_toArray, List.set_cons_zero, List.set_cons_succ]
    refine take_d 26 (i := 3) (v := .pointer (some ⟨g, i * 33, none⟩)) rfl (by kernel_rfl) (by kernel_rfl) (by kernel_rfl) (by kernel_rfl) (fun _ _ _ h => h) (Or.inl ⟨by kernel_rfl, fun w' hS => exec_field_turn _ 0 0 rfl g (i * 33) rfl rfl⟩) hHeld ?_
    try simp only [Act.put, List.setIfInBounds_toArray, List.set_cons_zero, List.set_cons_succ]
    refine take_d 27 (i := 4) (v := .int .i64 si) rfl (by kernel_rfl) (by kernel_rfl) (by kernel_rfl) (by kernel_rfl) (fun _ _ _ h => h) (Or.inl ⟨by kernel_rfl, fun w' hS => exec_load_one _ _ rfl g (i * 33) rfl _ Tryd.underlying3 rfl _ (HCI.out _ hS)⟩) hHeld ?_
    try simp only [Act.put, List.setIfInBounds_toArray, List.set_cons_zero, List.set_cons_succ]
    refine take_d 28 (i := 5) (v := .slice (some ⟨g, 0, none⟩) n c) rfl (by kernel_rfl) (by kernel_rfl) (by kernel_rfl) (by kernel_rfl) (fun _ _ _ h => h) (Or.inl ⟨by kernel_rfl, fun w' hS => exec_move _ rfl _ rfl⟩) hHeld ?_
    try simp only [Act.put, List.setIfInBounds_toArray, List.set_cons_zero, List.set_cons_succ]
    refine take_d 29 (i := 6) (v := .int .i64 (k : Int)) rfl (by kernel_rfl) (by kernel_rfl) (by kernel_rfl) (by kernel_rfl) (fun _ _ _ h => h) (Or.inl ⟨by kernel_rfl, fun w' hS => exec_move _ rfl _ rfl⟩) hHeld ?_
    try simp only [Act.put, List.setIfInBounds_toArray, List.set_cons_zero, List.set_cons_succ]
    refine take_d 30 (i := 7) (v := .pointer (some ⟨g, k * 33, none⟩)) rfl (by kernel_rfl) (by kernel_rfl) (by kernel_rfl) (by kernel_rfl) (fun _ _ _ h => h) (Or.inl ⟨by kernel_rfl, fun w' hS => exec_index_turn _ _ rfl g n c (k : Int) k rfl rfl rfl (by omega)⟩) hHeld ?_
    try simp only [Act.put, List.setIfInBounds_toArray, List.set_cons_zero, List.set_cons_succ]
    refine take_d 31 (i := 8) (v := .pointer (some ⟨g, k * 33, none⟩)) rfl (by kernel_rfl) (by kernel_rfl) (by kernel_rfl) (by kernel_rfl) (fun _ _ _ h => h) (Or.inl ⟨by kernel_rfl, fun w' hS => exec_field_turn _ 0 0 rfl g (k * 33) rfl rfl⟩) hHeld ?_
    try simp only [Act.put, List.setIfInBounds_toArray, List.set_cons_zero, List.set_cons_succ]
    refine take_d 32 (i := 9) (v := .int .i64 sk) rfl (by kernel_rfl) (by kernel_rfl) (by kernel_rfl) (by kernel_rfl) (fun _ _ _ h => h) (Or.inl ⟨by kernel_rfl, fun w' hS => exec_load_one _ _ rfl g (k * 33) rfl _ Tryd.underlying3 rfl _ (HCK.out _ hS)⟩) hHeld ?_
    try simp only [Act.put, List.setIfInBounds_toArray, List.set_cons_zero, List.set_cons_succ]
    refine take_d 33 (i := 10) (v := .bool (decide (si < sk))) rfl (by kernel_rfl) (by kernel_rfl) (by kernel_rfl) (by kernel_rfl) (fun _ _ _ h => h) (Or.inl ⟨by kernel_rfl, fun w' hS => exec_lss_int _ _ _ rfl si sk rfl rfl⟩) hHeld ?_
    try simp only [Act.put, List.setIfInBounds_toArray, List.set_cons_zero, List.set_cons_succ]
    refine take_d 6 (i := 11) (v := .bool (decide (si < sk))) rfl (by kernel_rfl) (by kernel_rfl) (by kernel_rfl) (by kernel_rfl) (fun _ _ _ h => h) (Or.inl ⟨by kernel_rfl, fun w' hS => exec_assign _ rfl _ rfl⟩) hHeld ?_
    try simp only [Act.put, List.setIfInBounds_toArray, List.set_cons_zero, List.set_cons_succ]
    refine wpAnyH_done (by kernel_rfl) ?_ _
    have HH2 := hide hHeld.1
    have HB2 := hide hHeld.2
    clear hHeld
    go_wp2_with fail
    go_ret
    exact ⟨rfl, HH2.out, HB2.out⟩
  · rw [hc] at HCMP0
    have HCMP := hide HCMP0
    have HRS := hide (show decide (Heap.tlt (si, X) (sk, Y)) = false from decide_eq_false (by
      rintro (h | h)
      · rw [show Heap.cmpL (si, X).2 (sk, Y).2 = Heap.cmpL X Y from rfl, hc] at h; cases h
      · have := h.1; rw [show Heap.cmpL (si, X).2 (sk, Y).2 = Heap.cmpL X Y from rfl, hc] at this; cases this))
    rw [HRS.out]
    clear HCMP0 hc
    go_enter Tryd.func131, Tryd.ntmps131
    go_upto_region 1 with fail
    refine wp_region_held_drew (S := fun w' => w'.heap = w.heap ∧ Below w.heap.size w w') (by kernel_rfl) ⟨rfl, (Below.refl _ _).drew⟩ (fun hHeld => ?_)
    refine take_d 8 (i := 0) (v := .slice (some ⟨g, 0, none⟩) n c) rfl (by kernel_rfl) (by kernel_rfl) (by kernel_rfl) (by kernel_rfl) (fun _ _ _ h => h) (Or.inl ⟨by kernel_rfl, fun w' hS => exec_move _ rfl _ rfl⟩) hHeld ?_
    try simp only [Act.put, List.setIfInBounds_toArray, List.set_cons_zero, List.set_cons_succ]
    refine take_d 9 (i := 1) (v := .int .i64 (i : Int)) rfl (by kernel_rfl) (by kernel_rfl) (by kernel_rfl) (by kernel_rfl) (fun _ _ _ h => h) (Or.inl ⟨by kernel_rfl, fun w' hS => exec_move _ rfl _ rfl⟩) hHeld ?_
    try simp only [Act.put, List.setIfInBounds_toArray, List.set_cons_zero, List.set_cons_succ]
    refine take_d 10 (i := 2) (v := .pointer (some ⟨g, i * 33, none⟩)) rfl (by kernel_rfl) (by kernel_rfl) (by kernel_rfl) (by kernel_rfl) (fun _ _ _ h => h) (Or.inl ⟨by kernel_rfl, fun w' hS => exec_index_turn _ _ rfl g n c (i : Int) i rfl rfl rfl (by omega)⟩) hHeld ?_
    try simp only [Act.put, List.setIfInBounds_toArray, List.set_cons_zero, List.set_cons_succ]
    refine take_d 11 (i := 3) (v := .pointer (some ⟨g, i * 33 + 1, none⟩)) rfl (by kernel_rfl) (by kernel_rfl) (by kernel_rfl) (by kernel_rfl) (fun _ _ _ h => h) (Or.inl ⟨by kernel_rfl, fun w' hS => exec_field_turn _ 1 1 rfl g (i * 33) rfl rfl⟩) hHeld ?_
    try simp only [Act.put, List.setIfInBounds_toArray, List.set_cons_zero, List.set_cons_succ]
    refine take_d 12 (i := 4) (v := .slice (some ⟨g, i * 33 + 1, none⟩) 32 32) rfl (by kernel_rfl) (by kernel_rfl) (by kernel_rfl) (by kernel_rfl) (fun _ _ _ h => h) (Or.inl ⟨by kernel_rfl, fun w' hS => exec_slice_hash _ rfl g (i * 33 + 1) rfl⟩) hHeld ?_
    try simp only [Act.put, List.setIfInBounds_toArray, List.set_cons_zero, List.set_cons_succ]
    refine take_d 13 (i := 5) (v := .slice (some ⟨g, 0, none⟩) n c) rfl (by kernel_rfl) (by kernel_rfl) (by kernel_rfl) (by kernel_rfl) (fun _ _ _ h => h) (Or.inl ⟨by kernel_rfl, fun w' hS => exec_move _ rfl _ rfl⟩) hHeld ?_
    try simp only [Act.put, List.setIfInBounds_toArray, List.set_cons_zero, List.set_cons_succ]
    refine take_d 14 (i := 6) (v := .int .i64 (k : Int)) rfl (by kernel_rfl) (by kernel_rfl) (by kernel_rfl) (by kernel_rfl) (fun _ _ _ h => h) (Or.inl ⟨by kernel_rfl, fun w' hS => exec_move _ rfl _ rfl⟩) hHeld ?_
    try simp only [Act.put, List.setIfInBounds_toArray, List.set_cons_zero, List.set_cons_succ]
    refine take_d 15 (i := 7) (v := .pointer (some ⟨g, k * 33, none⟩)) rfl (by kernel_rfl) (by kernel_rfl) (by kernel_rfl) (by kernel_rfl) (fun _ _ _ h => h) (Or.inl ⟨by kernel_rfl, fun w' hS => exec_index_turn _ _ rfl g n c (k : Int) k rfl rfl rfl (by omega)⟩) hHeld ?_
    try simp only [Act.put, List.setIfInBounds_toArray, List.set_cons_zero, List.set_cons_succ]
    refine take_d 16 (i := 8) (v := .pointer (some ⟨g, k * 33 + 1, none⟩)) rfl (by kernel_rfl) (by kernel_rfl) (by kernel_rfl) (by kernel_rfl) (fun _ _ _ h => h) (Or.inl ⟨by kernel_rfl, fun w' hS => exec_field_turn _ 1 1 rfl g (k * 33) rfl rfl⟩) hHeld ?_
    try simp only [Act.put, List.setIfInBounds_toArray, List.set_cons_zero, List.set_cons_succ]
    refine take_d 17 (i := 9) (v := .slice (some ⟨g, k * 33 + 1, none⟩) 32 32) rfl (by kernel_rfl) (by kernel_rfl) (by kernel_rfl) (by kernel_rfl) (fun _ _ _ h => h) (Or.inl ⟨by kernel_rfl, fun w' hS => exec_slice_hash _ rfl g (k * 33 + 1) rfl⟩) hHeld ?_
    try simp only [Act.put, List.setIfInBounds_toArray, List.set_cons_zero, List.set_cons_succ]
    refine wpAnyH_ready (rs := [10]) (by kernel_rfl) (by simp) (AllReadyH.cons rfl (fun K hK => ?_) AllReadyH.nil)
    rw [if_pos (by kernel_rfl)]
    try go_simp
    refine (HCMP.out _ hHeld).mono ?_
    rintro e w' ⟨rfl, rfl⟩
    refine hK.out _ _ hHeld (fun hHeld => ?_)
    clear hK K
    try simp only [Act.put, List.setIfInBounds_toArray, List.set_cons_zero, List.set_cons_succ]
    refine take_d 7 (i := 11) (v := .int .i64 1) rfl (by kernel_rfl) (by kernel_rfl) (by kernel_rfl) (by kernel_rfl) (fun _ _ _ h => h) (Or.inl ⟨by kernel_rfl, fun w' hS => exec_assign _ rfl _ rfl⟩) hHeld ?_
    try simp only [Act.put, List.setIfInBounds_toArray, List.set_cons_zero, List.set_cons_succ]
    refine wpAnyH_done (by kernel_rfl) ?_ _
    have HH1 := hide hHeld.1
    have HB1 := hide hHeld.2
    clear hHeld
    go_wp2_with fail
    go_ret
    exact ⟨rfl, HH1.out, HB1.out⟩
end Go.Proofs.YtgjepahhbecljaaDoor

namespace Go.Proofs.YtgjepahhbecljaaDoor
open Go Go.RowKit
set_option linter.unusedVariables false
set_option linter.unusedSimpArgs false
theorem results_none {P : Program} {fn : Func} (h : fn.results = #[]) (tmps : Array Value) (w : World) : (results fn tmps).run P w = .ok (.tuple #[]) w := by simp [results, h]
theorem size_turn : (Tryd.prog.info? 84).map (·.size) = some 33 := by kernel_rfl
theorem turnC_one (x : Heap.T) : ∀ u ∈ turnC x, u.oneCell' = true := fun u hu => by
  rcases List.mem_cons.1 hu with rfl | hu
  · rfl
  · exact u8s_one _ _ hu
theorem lset_take (vs cs : List Value) (o m : Nat) (h : o + vs.length ≤ m) (hm : m ≤ cs.length) : (lset cs o vs).take m = lset (cs.take m) o vs := by
  refine List.ext_getElem? fun k => ?_
  by_cases hk : k < m
  · rw [List.getElem?_take_of_lt hk, lset_get _ _ _ _ (by omega), lset_get _ _ _ _ (by rw [List.length_take]; omega), List.getElem?_take_of_lt hk]
  · rw [List.getElem?_eq_none (by rw [List.length_take]; omega), List.getElem?_eq_none (by rw [lset_len, List.length_take]; omega)]
section
variable {o : Oper} {a : Act} {w : World} {K : Act → World → Prop} {Q : Exit → Act → World → Prop}
theorem wp_turn_loadD (d : Nat) (hd : o.dst = some d) (x : Operand) (ho : o.op = .load 84 x) (base : Nat) (v : Value) (l : List Heap.T) (i g : Nat) {n c : Nat} (hv : v = .slice (some ⟨g, 0, none⟩) n c) (hx : a.eval x = .pointer (some ⟨g, i * 33, none⟩)) (hR : RowT w base v l) (hi : i < l.length) (X : Heap.T) (hX : l[i] = X)
    (h : K (a.put (some d) (.agg (turnC X).toArray)) w) : o.wp Tryd.prog a w K Q := by
  obtain ⟨g', c', e, _, _, _, _, hc⟩ := hR.open_ (by omega)
  rw [hv] at e
  injection e with e1 e2 e3
  injection e1 with e1
  injection e1 with e1
  subst e1
  have hw := hR.2 _ (List.getElem_mem hi)
  rw [hX] at hw
  exact wp_load_mid _ x ho g (i * 33) hx (turnC X) _ (fun j u hu => hc i hi j u (by rw [hX]; exact hu)) Tryd.underlying84 rfl (by rw [turnC_len hw.1]; exact size_turn) (by rw [hd]; exact h)
theorem wp_turn_putD (hd : o.dst = none) (x y : Operand) (ho : o.op = .store 84 x y) (base : Nat) (v : Value) (l : List Heap.T) (i g : Nat) {n c : Nat} (hv : v = .slice (some ⟨g, 0, none⟩) n c) (hx : a.eval x = .pointer (some ⟨g, i * 33, none⟩)) (hR : RowT w base v l) (hi : i < l.length) (z : Heap.T) (hz : z.2.length = 32 ∧ Bytes z.2) (hy : a.eval y = .agg (turnC z).toArray)
    (h : ∀ w', RowT w' base v (l.set i z) → w.grownBy w' (some g) → w'.heap.size = w.heap.size → K (a.put none undef) w') : o.wp Tryd.prog a w K Q := by
  obtain ⟨⟨hl, hvv⟩, hw⟩ := hR
  have hlen := turnsC_len hw
  rcases hvv with ⟨rfl, h1⟩ | ⟨g', cap, cur, e, hbg, hB, hn, hm, hs, ht⟩
  · cases hv
  · rw [hv] at e
    injection e with e1 e2 e3
    injection e1 with e1
    injection e1 with e1
    subst e1 e3
    have hBlk : Blk w g 84 cur.toList := by unfold Blk; rw [hB]
    have hcl : cur.toList.length = c * 33 := by rw [Array.length_toList, hs]
    refine wp_store_blk _ x y ho g (i * 33) (turnC z) hx hy _ _ hBlk (by rw [turnC_len hz.1, hcl]; omega) (by rw [turnC_len hz.1]; exact size_turn) (turnC_one z) fun w' a1 a2 a3 => ?_
    rw [hd]
    refine h w' ⟨⟨by rw [turnsC_len (hw.set i hz)], .inr ⟨g, c, (lset cur.toList (i * 33) (turnC z)).toArray, by rw [hv, e2, List.length_set], hbg, a1, by rw [List.length_set]; exact hn, hm, by rw [List.size_toArray, lset_len, hcl], ?_⟩⟩, hw.set i hz⟩ a2 a3
    rw [List.length_set]
    show (lset cur.toList (i * 33) (turnC z)).take (l.length * 33) = _
    rw [lset_take _ _ _ _ (by rw [turnC_len hz.1]; omega) (by rw [hcl]; omega), ht, turnsC_set hw i hi hz]
end
set_option maxRecDepth 100000
set_option maxHeartbeats 4000000
theorem turns_swap (v : Value) (l : List Heap.T) (w : World) (base i k g n c : Nat) (h : RowT w base v l) (hv : v = .slice (some ⟨g, 0, none⟩) n c) (hi : i < l.length) (hk : k < l.length) :
    Calls Tryd.prog 134 #[v, .int .i64 (i : Int), .int .i64 (k : Int)] w fun e w' => ∃ u, e = .returned u ∧ RowT w' base v (Heap.swpL l i k) ∧ w.grownBy w' (some g) ∧ w'.heap.size = w.heap.size := by
  have HR := hide h
  have HN := hide (show l.length = n by obtain ⟨A, c', e⟩ := h.shape; rw [hv] at e; injection e with _ e2 _; exact e2.symm)
  obtain ⟨X, HX⟩ : ∃ x, Hid (l[i] = x) := ⟨_, hide rfl⟩
  obtain ⟨Y, HY⟩ : ∃ x, Hid (l[k] = x) := ⟨_, hide rfl⟩
  have WX := hide (show X.2.length = 32 ∧ Bytes X.2 by rw [← HX.out]; exact h.2 _ (List.getElem_mem hi))
  have WY := hide (show Y.2.length = 32 ∧ Bytes Y.2 by rw [← HY.out]; exact h.2 _ (List.getElem_mem hk))
  have HS := hide (show Heap.swpL l i k = (l.set i Y).set k X by unfold Heap.swpL; rw [Heap.getD_in l hk, Heap.getD_in l hi, HX.out, HY.out])
  rw [HS.out]
  rw [HN.out] at hi hk
  subst hv
  clear h
  go_enter Tryd.func134, Tryd.ntmps134
  refine wp_region_held_drew (S := fun w' => w'.heap.size = w.heap.size) (by kernel_rfl) rfl (fun hHeld => ?_)
  replace HR := hide (RowT.keptB HR.out (Below.refl _ _).drew)
  have HG := hide (grown_drew (World.grownBy.refl w (some g)))
  refine take_d 6 (i := 0) (v := .slice (some ⟨g, 0, none⟩) n c) rfl (by kernel_rfl) (by kernel_rfl) (by kernel_rfl) (by kernel_rfl) (fun _ _ _ h => h) (Or.inl ⟨by kernel_rfl, fun w' hS => exec_move _ rfl _ rfl⟩) hHeld ?_
  try simp only [Act.put, List.setIfInBounds_toArray, List.set_cons_zero, List.set_cons_succ]
  refine take_d 7 (i := 1) (v := .int .i64 (i : Int)) rfl (by kernel_rfl) (by kernel_rfl) (by kernel_rfl) (by kernel_rfl) (fun _ _ _ h => h) (Or.inl ⟨by kernel_rfl, fun w' hS => exec_move _ rfl _ rfl⟩) hHeld ?_
  try simp only [Act.put, List.setIfInBounds_toArray, List.set_cons_zero, List.set_cons_succ]
  refine take_d 8 (i := 2) (v := .slice (some ⟨g, 0, none⟩) n c) rfl (by kernel_rfl) (by kernel_rfl) (by kernel_rfl) (by kernel_rfl) (fun _ _ _ h => h) (Or.inl ⟨by kernel_rfl, fun w' hS => exec_move _ rfl _ rfl⟩) hHeld ?_
  try simp only [Act.put, List.setIfInBounds_toArray, List.set_cons_zero, List.set_cons_succ]
  refine take_d 9 (i := 3) (v := .int .i64 (k : Int)) rfl (by kernel_rfl) (by kernel_rfl) (by kernel_rfl) (by kernel_rfl) (fun _ _ _ h => h) (Or.inl ⟨by kernel_rfl, fun w' hS => exec_move _ rfl _ rfl⟩) hHeld ?_
  try simp only [Act.put, List.setIfInBounds_toArray, List.set_cons_zero, List.set_cons_succ]
  refine take_d 10 (i := 4) (v := .slice (some ⟨g, 0, none⟩) n c) rfl (by kernel_rfl) (by kernel_rfl) (by kernel_rfl) (by kernel_rfl) (fun _ _ _ h => h) (Or.inl ⟨by kernel_rfl, fun w' hS => exec_move _ rfl _ rfl⟩) hHeld ?_
  try simp only [Act.put, List.setIfInBounds_toArray, List.set_cons_zero, List.set_cons_succ]
  refine take_d 11 (i := 5) (v := .int .i64 (k : Int)) rfl (by kernel_rfl) (by kernel_rfl) (by kernel_rfl) (by kernel_rfl) (fun _ _ _ h => h) (Or.inl ⟨by kernel_rfl, fun w' hS => exec_move _ rfl _ rfl⟩) hHeld ?_
  try simp only [Act.put, List.setIfInBounds_toArray, List.set_cons_zero, List.set_cons_succ]
  refine take_d 12 (i := 6) (v := .pointer (some ⟨g, k * 33, none⟩)) rfl (by kernel_rfl) (by kernel_rfl) (by kernel_rfl) (by kernel_rfl) (fun _ _ _ h => h) (Or.inl ⟨by kernel_rfl, fun w' hS => exec_index_turn _ _ rfl g n c (k : Int) k rfl rfl rfl (by omega)⟩) hHeld ?_
  try simp only [Act.put, List.setIfInBounds_toArray, List.set_cons_zero, List.set_cons_succ]
  refine take_d 14 (i := 8) (v := .slice (some ⟨g, 0, none⟩) n c) rfl (by kernel_rfl) (by kernel_rfl) (by kernel_rfl) (by kernel_rfl) (fun _ _ _ h => h) (Or.inl ⟨by kernel_rfl, fun w' hS => exec_move _ rfl _ rfl⟩) hHeld ?_
  try simp only [Act.put, List.setIfInBounds_toArray, List.set_cons_zero, List.set_cons_succ]
  refine take_d 15 (i := 9) (v := .int .i64 (i : Int)) rfl (by kernel_rfl) (by kernel_rfl) (by kernel_rfl) (by kernel_rfl) (fun _ _ _ h => h) (Or.inl ⟨by kernel_rfl, fun w' hS => exec_move _ rfl _ rfl⟩) hHeld ?_
  try simp only [Act.put, List.setIfInBounds_toArray, List.set_cons_zero, List.set_cons_succ]
  refine take_d 16 (i := 10) (v := .pointer (some ⟨g, i * 33, none⟩)) rfl (by kernel_rfl) (by kernel_rfl) (by kernel_rfl) (by kernel_rfl) (fun _ _ _ h => h) (Or.inl ⟨by kernel_rfl, fun w' hS => exec_index_turn _ _ rfl g n c (i : Int) i rfl rfl rfl (by omega)⟩) hHeld ?_
  try simp only [Act.put, List.setIfInBounds_toArray, List.set_cons_zero, List.set_cons_succ]
  refine wpAnyH_ready (rs := [7, 11]) (by kernel_rfl) (by simp) (AllReadyH.cons rfl (fun K hK => ?q1_7) (AllReadyH.cons rfl (fun K hK => ?q2_11) AllReadyH.nil))
  case q1_7 =>
    rw [if_pos (by kernel_rfl)]
    refine wp_turn_loadD 13 rfl _ rfl base (.slice (some ⟨g, 0, none⟩) n c) l k g rfl rfl HR.out (by rw [HN.out]; exact hk) Y HY.out ?_
    refine hK.out _ _ hHeld (fun hHeld => ?_)
    clear hK K
    try simp only [Act.put, List.setIfInBounds_toArray, List.set_cons_zero, List.set_cons_succ]
    refine wpAnyH_ready (rs := [11]) (by kernel_rfl) (by simp) (AllReadyH.cons rfl (fun K hK => ?_) AllReadyH.nil)
    rw [if_pos (by kernel_rfl)]
    refine wp_turn_loadD 17 rfl _ rfl base (.slice (some ⟨g, 0, none⟩) n c) l i g rfl rfl HR.out (by rw [HN.out]; exact hi) X HX.out ?_
    refine hK.out _ _ hHeld (fun hHeld => ?_)
    clear hK K
    try simp only [Act.put, List.setIfInBounds_toArray, List.set_cons_zero, List.set_cons_succ]
    refine take_d 18 (i := 12) (v := .pointer (some ⟨g, i * 33, none⟩)) rfl (by kernel_rfl) (by kernel_rfl) (by kernel_rfl) (by kernel_rfl) (fun _ _ _ h => h) (Or.inl ⟨by kernel_rfl, fun w' hS => exec_index_turn _ _ rfl g n c (i : Int) i rfl rfl rfl (by omega)⟩) hHeld ?_
    try simp only [Act.put, List.setIfInBounds_toArray, List.set_cons_zero, List.set_cons_succ]
    refine wpAnyH_ready (rs := [13]) (by kernel_rfl) (by simp) (AllReadyH.cons rfl (fun K hK => ?_) AllReadyH.nil)
    rw [if_pos (by kernel_rfl)]
    refine wp_turn_putD rfl _ _ rfl base (.slice (some ⟨g, 0, none⟩) n c) l i g rfl rfl HR.out (by rw [HN.out]; exact hi) Y WY.out rfl ?_
    intro ws hr hg hs
    replace HR := hide hr
    have HG2 := hide (HG.out.trans hg)
    replace HG := HG2
    clear HG2
    have hsz := hs.trans hHeld
    clear hr hg hs
    refine hK.out _ _ hsz (fun hHeld => ?_)
    clear hsz hK K
    try simp only [Act.put, List.setIfInBounds_toArray, List.set_cons_zero, List.set_cons_succ]
    refine take_d 19 (i := 14) (v := .pointer (some ⟨g, k * 33, none⟩)) rfl (by kernel_rfl) (by kernel_rfl) (by kernel_rfl) (by kernel_rfl) (fun _ _ _ h => h) (Or.inl ⟨by kernel_rfl, fun w' hS => exec_index_turn _ _ rfl g n c (k : Int) k rfl rfl rfl (by omega)⟩) hHeld ?_
    try simp only [Act.put, List.setIfInBounds_toArray, List.set_cons_zero, List.set_cons_succ]
    refine wpAnyH_ready (rs := [15]) (by kernel_rfl) (by simp) (AllReadyH.cons rfl (fun K hK => ?_) AllReadyH.nil)
    rw [if_pos (by kernel_rfl)]
    refine wp_turn_putD rfl _ _ rfl base (.slice (some ⟨g, 0, none⟩) n c) (l.set i Y) k g rfl rfl HR.out (by rw [List.length_set, HN.out]; exact hk) X WX.out rfl ?_
    intro ws hr hg hs
    replace HR := hide hr
    have HG2 := hide (HG.out.trans hg)
    replace HG := HG2
    clear HG2
    have hsz := hs.trans hHeld
    clear hr hg hs
    refine hK.out _ _ hsz (fun hHeld => ?_)
    clear hsz hK K
    try simp only [Act.put, List.setIfInBounds_toArray, List.set_cons_zero, List.set_cons_succ]
    refine wpAnyH_done (by kernel_rfl) ?_ _
    first | go_wp2_with fail | skip
    exact bodyPost_end (v := .tuple #[]) (results_none rfl _ _) rfl ⟨_, rfl, HR.out, HG.out, hHeld⟩
  case q2_11 =>
    rw [if_pos (by kernel_rfl)]
    refine wp_turn_loadD 17 rfl _ rfl base (.slice (some ⟨g, 0, none⟩) n c) l i g rfl rfl HR.out (by rw [HN.out]; exact hi) X HX.out ?_
    refine hK.out _ _ hHeld (fun hHeld => ?_)
    clear hK K
    try simp only [Act.put, List.setIfInBounds_toArray, List.set_cons_zero, List.set_cons_succ]
    refine wpAnyH_ready (rs := [7]) (by kernel_rfl) (by simp) (AllReadyH.cons rfl (fun K hK => ?_) AllReadyH.nil)
    rw [if_pos (by kernel_rfl)]
    refine wp_turn_loadD 13 rfl _ rfl base (.slice (some ⟨g, 0, none⟩) n c) l k g rfl rfl HR.out (by rw [HN.out]; exact hk) Y HY.out ?_
    refine hK.out _ _ hHeld (fun hHeld => ?_)
    clear hK K
    try simp only [Act.put, List.setIfInBounds_toArray, List.set_cons_zero, List.set_cons_succ]
    refine take_d 18 (i := 12) (v := .pointer (some ⟨g, i * 33, none⟩)) rfl (by kernel_rfl) (by kernel_rfl) (by kernel_rfl) (by kernel_rfl) (fun _ _ _ h => h) (Or.inl ⟨by kernel_rfl, fun w' hS => exec_index_turn _ _ rfl g n c (i : Int) i rfl rfl rfl (by omega)⟩) hHeld ?_
    try simp only [Act.put, List.setIfInBounds_toArray, List.set_cons_zero, List.set_cons_succ]
    refine wpAnyH_ready (rs := [13]) (by kernel_rfl) (by simp) (AllReadyH.cons rfl (fun K hK => ?_) AllReadyH.nil)
    rw [if_pos (by kernel_rfl)]
    refine wp_turn_putD rfl _ _ rfl base (.slice (some ⟨g, 0, none⟩) n c) l i g rfl rfl HR.out (by rw [HN.out]; exact hi) Y WY.out rfl ?_
    intro ws hr hg hs
    replace HR := hide hr
    have HG2 := hide (HG.out.trans hg)
    replace HG := HG2
    clear HG2
    have hsz := hs.trans hHeld
    clear hr hg hs
    refine hK.out _ _ hsz (fun hHeld => ?_)
    clear hsz hK K
    try simp only [Act.put, List.setIfInBounds_toArray, List.set_cons_zero, List.set_cons_succ]
    refine take_d 19 (i := 14) (v := .pointer (some ⟨g, k * 33, none⟩)) rfl (by kernel_rfl) (by kernel_rfl) (by kernel_rfl) (by kernel_rfl) (fun _ _ _ h => h) (Or.inl ⟨by kernel_rfl, fun w' hS => exec_index_turn _ _ rfl g n c (k : Int) k rfl rfl rfl (by omega)⟩) hHeld ?_
    try simp only [Act.put, List.setIfInBounds_toArray, List.set_cons_zero, List.set_cons_succ]
    refine wpAnyH_ready (rs := [15]) (by kernel_rfl) (by simp) (AllReadyH.cons rfl (fun K hK => ?_) AllReadyH.nil)
    rw [if_pos (by kernel_rfl)]
    refine wp_turn_putD rfl _ _ rfl base (.slice (some ⟨g, 0, none⟩) n c) (l.set i Y) k g rfl rfl HR.out (by rw [List.length_set, HN.out]; exact hk) X WX.out rfl ?_
    intro ws hr hg hs
    replace HR := hide hr
    have HG2 := hide (HG.out.trans hg)
    replace HG := HG2
    clear HG2
    have hsz := hs.trans hHeld
    clear hr hg hs
    refine hK.out _ _ hsz (fun hHeld => ?_)
    clear hsz hK K
    try simp only [Act.put, List.setIfInBounds_toArray, List.set_cons_zero, List.set_cons_succ]
    refine wpAnyH_done (by kernel_rfl) ?_ _
    first | go_wp2_with fail | skip
    exact bodyPost_end (v := .tuple #[]) (results_none rfl _ _) rfl ⟨_, rfl, HR.out, HG.out, hHeld⟩
end Go.Proofs.YtgjepahhbecljaaDoor

namespace Go.Proofs.YtgjepahhbecljaaDoor
open Go Go.RowKit
def turn0 : Value := .agg (turnC (0, List.replicate 32 0)).toArray
theorem el_turn : ElemOf Tryd.prog 81 84 33 40 := elem_of Tryd.underlying81 (z := turn0) (by kernel_rfl) rfl (by decide) (by decide)
theorem RowT.push {w : World} {base : Nat} {v : Value} {l : List Heap.T} {x : Heap.T} (h : w.ownsRow base 84 33 v (l.length + 1) (turnsC l ++ turnC x)) (hw : WfT l) (hx : x.2.length = 32 ∧ Bytes x.2) : RowT w base v (l ++ [x]) := by
  refine ⟨?_, fun y hy => ?_⟩
  · rw [List.length_append, show turnsC (l ++ [x]) = turnsC l ++ turnC x by simp [turnsC]]
    exact h
  · rcases List.mem_append.1 hy with h1 | h1
    · exact hw y h1
    · rw [List.mem_singleton.1 h1]; exact hx
section
variable {o : Oper} {a : Act} {w : World}
theorem exec_assert_turn (x : Operand) (t : TypeId) (ho : o.op = .typeAssert x t 84 false) (v : Value) (hx : a.eval x = .iface 84 v) : (execOp a.eval o).run Tryd.prog w = .ok (.value v) w := by
  unfold execOp
  simp only [ho, hx]
  have h : Tryd.prog.underlying 84 = _ := Tryd.underlying84
  simp [Instr.typeAssert, run_underlying h, go_sem]
end
end Go.Proofs.YtgjepahhbecljaaDoor

namespace Go.Proofs.YtgjepahhbecljaaDoor
open Go Go.RowKit
set_option linter.unusedVariables false
set_option linter.unusedSimpArgs false

/-- Block k holds no turns and no row of turns. -/
def NotT (w : World) (k : Nat) : Prop := ∀ cs t f, w.heap[k]? = some (.cells cs t f) → t ≠ 81 ∧ t ≠ 84
/-- Nothing old has turned below 'base', nor any block that holds no turns. -/
structure Turned (base : Nat) (w w' : World) : Prop where
  below : Below base w w'
  keep : ∀ k, k < w.heap.size → NotT w k → w'.heap[k]? = w.heap[k]?
theorem Turned.refl (base : Nat) (w : World) : Turned base w w := ⟨Below.refl _ _, fun _ _ _ => rfl⟩
theorem Turned.trans {base : Nat} {a b c : World} (h : Turned base a b) (k : Turned base b c) : Turned base a c :=
  ⟨h.below.trans k.below, fun i hi hn => by
    have e := h.keep i hi hn
    rw [k.keep i (by have := h.below.size; omega) (by intro cs t f hc; rw [e] at hc; exact hn cs t f hc), e]⟩
theorem Turned.of_below {base : Nat} {w w' : World} (h : Below w.heap.size w w') (hb : base ≤ w.heap.size) : Turned base w w' := ⟨h.mono hb, fun k hk _ => h.block k hk⟩
theorem Turned.of_grown {base g : Nat} {w w' : World} (h : w.grownBy w' (some g)) (hb : base ≤ g) (hs : base ≤ w.heap.size) {cs : Array Value} {t : TypeId} {f : Nat × Nat} (hg : w.heap[g]? = some (.cells cs t f)) (ht : t = 81 ∨ t = 84) : Turned base w w' :=
  ⟨⟨h.os, h.tape, h.output, h.size, fun k hk => h.block k (by omega) (by intro e; injection e with e; omega)⟩, fun k hk hn => h.block k hk (by
    intro e
    injection e with e
    subst e
    rcases ht with ht | ht
    · exact (hn cs t f hg).1 ht
    · exact (hn cs t f hg).2 ht)⟩
theorem Turned.drew {base : Nat} {w w' : World} (h : Turned base w w') : Turned base w w'.drew := ⟨h.below.drew, h.keep⟩
theorem Turned.more {base base' : Nat} {w w' : World} (h : Turned base w w') (hb : base' ≤ base) : Turned base' w w' := ⟨h.below.mono hb, h.keep⟩

/-- The pointer's block b holds a row of turns of the call's own. -/
def HeapB (w : World) (base b : Nat) (v : Value) (l : List Heap.T) : Prop := Blk w b 81 [v] ∧ base ≤ b ∧ RowT w base v l
theorem RowT.block {w : World} {base : Nat} {v : Value} {l : List Heap.T} (h : RowT w base v l) {g n c : Nat} (hv : v = .slice (some ⟨g, 0, none⟩) n c) : base ≤ g ∧ g < w.heap.size ∧ n = l.length ∧ ∃ cur, w.heap[g]? = some (.cells cur 84 (0, 0)) := by
  obtain ⟨⟨hl, hvv⟩, hw⟩ := h
  rcases hvv with ⟨rfl, h1⟩ | ⟨g', cap, cur, e, hbg, hB, hn, hm, hs, ht⟩
  · cases hv
  · rw [hv] at e
    injection e with e1 e2 e3
    injection e1 with e1
    injection e1 with e1
    subst e1
    exact ⟨hbg, (Array.getElem?_eq_some_iff.1 hB).1, e2, cur, hB⟩
theorem HeapB.keptB {w w' : World} {base b : Nat} {v : Value} {l : List Heap.T} (h : HeapB w base b v l) (hb : Below w.heap.size w w') : HeapB w' base b v l :=
  ⟨h.1.below hb h.1.lt, h.2.1, h.2.2.keptB hb⟩
theorem HeapB.ne {w : World} {base b : Nat} {v : Value} {l : List Heap.T} (h : HeapB w base b v l) {g n c : Nat} (hv : v = .slice (some ⟨g, 0, none⟩) n c) : g ≠ b := by
  obtain ⟨_, _, _, cur, hg⟩ := h.2.2.block hv
  intro e
  subst e
  have h1 := h.1
  unfold Blk at h1
  rw [hg] at h1
  injection h1 with h1
  injection h1 with _ h1
  exact absurd h1 (by decide)
theorem HeapB.cell {w : World} {base b : Nat} {v : Value} {l : List Heap.T} (h : HeapB w base b v l) : w.cell? ⟨b, 0, none⟩ = some v := by rw [h.1.cell]; rfl
theorem HeapB.size {w : World} {base b : Nat} {v : Value} {l : List Heap.T} (h : HeapB w base b v l) : base ≤ w.heap.size := by have := h.1.lt; have := h.2.1; omega

/-- The pointer's own method call: the interface's value stands for the row. -/
abbrev hp (b : Nat) : Value := .iface 79 (.pointer (some ⟨b, 0, none⟩))
theorem isAgg_turns (w : World) : (isAgg 81).run Tryd.prog w = .ok false w := by kernel_rfl
theorem run_load_turns {w : World} {b : Nat} {v : Value} (h : w.cell? ⟨b, 0, none⟩ = some v) : (loadVar 81 ⟨b, 0, none⟩).run Tryd.prog w = .ok v w := by
  unfold loadVar
  simp only [Sem.run_bind, isAgg_turns, Result.andThen_ok]
  simp [run_load, h]
theorem run_wrapnil {P : Program} (w : World) (t : TypeId) (a : Addr) (s m : String) : (Builtin.ssaWrapNilChk_ #[t] t #[.pointer (some a), strVal s, strVal m]).run P w = .ok (.pointer (some a)) w := rfl
theorem meth_val (b : Nat) (w : World) (f : Nat) (nm : String) (hn : (Tryd.prog.info? 79).map (fun i => (i.methods.find? (·.name == nm)).map fun m => (m.path, m.func)) = some (some (#[], some (f, false)))) {v : Value} (h : w.cell? ⟨b, 0, none⟩ = some v) :
    (Go.method (Tryd.prog.types.size + Made.depth) 79 (.pointer (some ⟨b, 0, none⟩)) nm).run Tryd.prog w = .ok (f, v) w := by
  have hd : 0 < Made.depth := by decide
  obtain ⟨n, e⟩ : ∃ n, Tryd.prog.types.size + Made.depth = n + 1 := ⟨Tryd.prog.types.size + Made.depth - 1, by omega⟩
  rw [e]
  rcases hi : Tryd.prog.info? 79 with _ | i
  · rw [hi] at hn; cases hn
  rw [hi] at hn
  simp only [Option.map_some, Option.some.injEq] at hn
  rcases hm : i.methods.find? (·.name == nm) with _ | m
  · rw [hm] at hn; cases hn
  rw [hm] at hn
  simp only [Option.map_some, Option.some.injEq, Prod.mk.injEq] at hn
  obtain ⟨h1, h2⟩ := hn
  unfold Go.method
  simp only [Sem.run_bind, typeInfo, run_program, Result.andThen_ok, hi, hm, h1, h2, follow, Sem.run_pure, receiverAt, run_underlying (show Tryd.prog.underlying 79 = some (.pointer 81) from Tryd.underlying79), Place.get]
  simp [run_wrapnil, asAddr, run_load_turns h, follow]
theorem meth_len0 : (Tryd.prog.info? 79).map (fun i => (i.methods.find? (·.name == "Len")).map fun m => (m.path, m.func)) = some (some (#[], some (75, false))) := by kernel_rfl
theorem meth_less0 : (Tryd.prog.info? 79).map (fun i => (i.methods.find? (·.name == "Less")).map fun m => (m.path, m.func)) = some (some (#[], some (131, false))) := by kernel_rfl
theorem meth_swap0 : (Tryd.prog.info? 79).map (fun i => (i.methods.find? (·.name == "Swap")).map fun m => (m.path, m.func)) = some (some (#[], some (134, false))) := by kernel_rfl
theorem meth_push (b : Nat) (w : World) : (Go.method (Tryd.prog.types.size + Made.depth) 79 (.pointer (some ⟨b, 0, none⟩)) "Push").run Tryd.prog w = .ok (133, .pointer (some ⟨b, 0, none⟩)) w := by kernel_rfl
theorem meth_pop (b : Nat) (w : World) : (Go.method (Tryd.prog.types.size + Made.depth) 79 (.pointer (some ⟨b, 0, none⟩)) "Pop").run Tryd.prog w = .ok (132, .pointer (some ⟨b, 0, none⟩)) w := by kernel_rfl

section
variable {ops : Array Oper} {rest : List Oper} {o : Oper} {a : Act} {w : World} {Q : Exit → Act → World → Prop}
theorem wpList_inv (hw : Region.wanted o (yielded ops a.tmps) = true) (recv : Operand) (name : String) (args : Array Operand) (ts : Array TypeId) (ho : o.op = .call { callee := .invoke recv name, args := args, argTypes := ts })
    (b : Nat) (hx : a.eval recv = hp b) (f : Nat) (hf : ∀ xs w, (callFunc f xs).run Tryd.prog w = .ok (.enter f xs) w) (rv : Value)
    (hm : (Go.method (Tryd.prog.types.size + Made.depth) 79 (.pointer (some ⟨b, 0, none⟩)) name).run Tryd.prog w = .ok (f, rv) w)
    (avs : List Value) (ha : args.map a.eval = avs.toArray) {R : Ending → World → Prop} (hc : Calls Tryd.prog f (rv :: avs).toArray w R) (hr : ∀ e w', R e w' → ∃ u, e = .returned u)
    (h : ∀ u w', R (.returned u) w' → wpList Tryd.prog ops Q rest (a.put o.dst u) w') : wpList Tryd.prog ops Q (o :: rest) a w := by
  refine wpList_step fun K hK => ?_
  rw [if_pos hw]
  have hrun : (execOp a.eval o).run Tryd.prog w = .ok (.enter f (rv :: avs).toArray) w := by
    unfold execOp
    simp only [ho, resolve, Sem.run_bind, Sem.run_pure, Result.andThen_ok, hx, ha, invoke]
    simp only [hp, List.append_toArray, List.singleton_append, List.getElem?_toArray, List.getElem?_cons_zero, callMethod]
    simp only [Sem.run_bind, run_program, Result.andThen_ok, hm, hf]
    simp
  unfold Oper.wp
  rw [hrun, Oper.upon_enter]
  refine hc.mono ?_
  intro e w' hR
  obtain ⟨u, rfl⟩ := hr e w' hR
  exact hK _ _ (h u w' hR)
end
end Go.Proofs.YtgjepahhbecljaaDoor

namespace Go.Proofs.YtgjepahhbecljaaDoor
open Go Go.RowKit
set_option linter.unusedVariables false
set_option linter.unusedSimpArgs false
set_option maxRecDepth 100000
set_option maxHeartbeats 4000000
theorem less_calls {v : Value} {l : List Heap.T} {w : World} {base b i k : Nat} (h : HeapB w base b v l) (hi : i < l.length) (hk : k < l.length) :
    Calls Tryd.prog 131 (v :: [.int .i64 (i : Int), .int .i64 (k : Int)]).toArray w fun e w' => e = .returned (.bool (decide (Heap.tlt (Heap.fn l i) (Heap.fn l k)))) ∧ HeapB w' base b v l ∧ Turned base w w' :=
  (turns_less v l w base i k h.2.2 hi hk).mono fun e w' ⟨h1, h2, h3⟩ => ⟨h1, h.keptB h3, Turned.of_below h3 h.size⟩
theorem swap_calls {v : Value} {l : List Heap.T} {w : World} {base b i k : Nat} (h : HeapB w base b v l) (hi : i < l.length) (hk : k < l.length) :
    Calls Tryd.prog 134 (v :: [.int .i64 (i : Int), .int .i64 (k : Int)]).toArray w fun e w' => (∃ u, e = .returned u) ∧ HeapB w' base b v (Heap.swpL l i k) ∧ Turned base w w' := by
  obtain ⟨g, c, hv, _, _, _, _, _⟩ := h.2.2.open_ (by omega)
  obtain ⟨hbg, hgs, _, cur, hg⟩ := h.2.2.block hv
  refine (turns_swap v l w base i k g _ c h.2.2 hv hi hk).mono ?_
  rintro e w' ⟨u, rfl, h1, h2, h3⟩
  exact ⟨⟨u, rfl⟩, ⟨h.1.grown h2 (by intro e; injection e with e; exact h.ne hv e.symm), h.2.1, h1⟩, Turned.of_grown h2 hbg h.size hg (.inr rfl)⟩
theorem heap_up (v : Value) (l : List Heap.T) (w : World) (base b j : Nat) (h : HeapB w base b v l) (hj : j < l.length) (hm : l.length ≤ 1000) (hU : Heap.Up Heap.tlt (Heap.fn l) l.length j) :
    Calls Tryd.prog 85 #[hp b, .int .i64 (j : Int)] w fun e w' => (∃ u, e = .returned u) ∧ ∃ l', l'.Perm l ∧ HeapB w' base b v l' ∧ Heap.Is Heap.tlt (Heap.fn l') l'.length ∧ Turned base w w' := by
  have HB := hide h
  have HU := hide hU
  clear h hU
  go_enter Tryd.func85, Tryd.ntmps85
  go_wp2_with fail
  go_loopw [1] (fun v1 wr => ∃ (i : Nat) (m : List Heap.T), v1 = .int .i64 i ∧ i < m.length ∧ m.length ≤ 1000 ∧ m.Perm l ∧ HeapB wr base b v m ∧ Heap.Up Heap.tlt (Heap.fn m) m.length i ∧ Turned base w wr) (fun v1 _ => (intOf v1).toNat)
  case atStart => exact ⟨j, l, rfl, hj, hm, List.Perm.refl _, HB.out, HU.out, Turned.refl _ _⟩
  case round =>
    obtain ⟨i, m, rfl, hi, hm2, hp1, hb, hu, ht⟩ := hrel
    clear HB HU
    have HB := hide hb
    have HU := hide hu
    have HP := hide hp1
    have HT := hide ht
    clear hb hu hp1 ht
    have hmeth := hide (meth_val b wr 131 "Less" meth_less0 HB.out.cell)
    rcases Nat.eq_zero_or_pos i with rfl | hi0
    · go_wp2_with go_skip
      exact bodyPost_end (v := .tuple #[]) (results_none rfl _ _) rfl ⟨⟨_, rfl⟩, m, HP.out, HB.out, Heap.up_done HU.out (.inl rfl), HT.out⟩
    · obtain ⟨p, HPP⟩ : ∃ p, Hid (Heap.par i = p) := ⟨_, hide rfl⟩
      have hpi : p = (i - 1) / 2 := HPP.out.symm
      have hp2 : p < i := by omega
      have hpm : p < m.length := by omega
      have hq : ((i : Int) - 1).tdiv 2 = (p : Int) := by rw [Int.tdiv_eq_ediv_of_nonneg (by omega)]; omega
      have hne : ((p : Int) == (i : Int)) = false := by rw [beq_eq_false_iff_ne]; omega
      obtain ⟨d, HD⟩ : ∃ d, Hid (decide (Heap.tlt (Heap.fn m i) (Heap.fn m p)) = d) := ⟨_, hide rfl⟩
      have HL := hide (less_calls HB.out hi hpm)
      rw [HD.out] at HL
      clear hpi
      rcases d with _ | _
      · have HN := hide (show ¬ Heap.tlt (Heap.fn m i) (Heap.fn m (Heap.par i)) by rw [HPP.out]; exact of_decide_eq_false HD.out)
        clear HD HPP
        go_wp2_with (first
          | go_skip
          | (refine wpList_inv (by kernel_rfl) _ _ _ _ rfl b rfl 131 Tryd.call131 v hmeth.out [.int .i64 (i : Int), .int .i64 (p : Int)] (by simp [Act.eval]) HL.out (by rintro e w' ⟨rfl, _⟩; exact ⟨_, rfl⟩) ?_; rintro u w1 ⟨hu1, hb1, ht1⟩; injection hu1 with hu1; subst hu1; have HB1 := hide hb1; have HT1 := hide (HT.out.trans ht1); clear hb1 ht1 hmeth HL HB HT))
        exact bodyPost_end (v := .tuple #[]) (results_none rfl _ _) rfl ⟨⟨_, rfl⟩, m, HP.out, HB1.out, Heap.up_done HU.out (.inr HN.out), HT1.out⟩
      · have HN := hide (show Heap.tlt (Heap.fn m i) (Heap.fn m (Heap.par i)) by rw [HPP.out]; exact of_decide_eq_true HD.out)
        clear HD
        go_wp2_with (first
          | go_skip
          | (refine wpList_inv (by kernel_rfl) _ _ _ _ rfl b rfl 131 Tryd.call131 v hmeth.out [.int .i64 (i : Int), .int .i64 (p : Int)] (by simp [Act.eval]) HL.out (by rintro e w' ⟨rfl, _⟩; exact ⟨_, rfl⟩) ?_; rintro u w1 ⟨hu1, hb1, ht1⟩; injection hu1 with hu1; subst hu1; have HB1 := hide hb1; have HT1 := hide (HT.out.trans ht1); have hmeth2 := hide (meth_val b w1 134 "Swap" meth_swap0 HB1.out.cell); have HS := hide (swap_calls HB1.out hpm hi); clear hb1 ht1 hmeth HL HB HT)
          | (refine wpList_inv (by kernel_rfl) _ _ _ _ rfl b rfl 134 Tryd.call134 v hmeth2.out [.int .i64 (p : Int), .int .i64 (i : Int)] (by simp [Act.eval]) HS.out (by rintro e w' ⟨h, _⟩; exact h) ?_; rintro u w2 ⟨hu2, hb2, ht2⟩; have HB2 := hide hb2; have HT2 := hide (HT1.out.trans ht2); clear hu2 hb2 ht2 hmeth2 HS HB1 HT1))
        go_roundw
        case measure => simp [intOf]; omega
        case rel =>
          refine ⟨p, Heap.swpL m p i, by go_num, by rw [Heap.swpL_len]; exact hpm, by rw [Heap.swpL_len]; exact hm2, (Heap.swpL_perm m hpm hi).trans HP.out, HB2.out, ?_, HT2.out⟩
          have := Heap.up_stepL HU.out hi0 hi HN.out
          rw [HPP.out] at this
          exact this
end Go.Proofs.YtgjepahhbecljaaDoor

namespace Go.Proofs.YtgjepahhbecljaaDoor
open Go Go.RowKit
set_option linter.unusedVariables false
set_option linter.unusedSimpArgs false
set_option maxRecDepth 100000
set_option maxHeartbeats 8000000
theorem heap_down (v : Value) (l : List Heap.T) (w : World) (base b n : Nat) (h : HeapB w base b v l) (hn : n ≤ l.length) (hm : l.length ≤ 1000) (hU : Heap.Dn Heap.tlt (Heap.fn l) n 0) :
    Calls Tryd.prog 86 #[hp b, .int .i64 0, .int .i64 (n : Int)] w fun e w' => (∃ u, e = .returned u) ∧ ∃ l', l'.Perm l ∧ l'.drop n = l.drop n ∧ HeapB w' base b v l' ∧ Heap.Is Heap.tlt (Heap.fn l') n ∧ Turned base w w' := by
  have HB := hide h
  have HU := hide hU
  clear h hU
  go_enter Tryd.func86, Tryd.ntmps86
  go_wp2_with fail
  go_loopw [7] (fun v7 wr => ∃ (i : Nat) (m : List Heap.T), v7 = .int .i64 i ∧ i ≤ n ∧ n ≤ m.length ∧ m.length ≤ 1000 ∧ m.Perm l ∧ m.drop n = l.drop n ∧ HeapB wr base b v m ∧ Heap.Dn Heap.tlt (Heap.fn m) n i ∧ Turned base w wr) (fun v7 _ => n - (intOf v7).toNat)
  case atStart => exact ⟨0, l, by go_num, by omega, hn, hm, List.Perm.refl _, rfl, HB.out, HU.out, Turned.refl _ _⟩
  case round =>
    obtain ⟨i, m, rfl, hi, hnm, hm2, hp1, hd1, hb, hu, ht⟩ := hrel
    clear HB HU
    have HB0 := hide hb
    have HU := hide hu
    have HP := hide hp1
    have HD := hide hd1
    have HT0 := hide ht
    clear hb hu hp1 hd1 ht
    have hmeth := hide (meth_val b wr 131 "Less" meth_less0 HB0.out.cell)
    obtain ⟨a, HA⟩ : ∃ a, Hid (2 * i + 1 = a) := ⟨_, hide rfl⟩
    have ha : (2 : Int) * (i : Int) + 1 = (a : Int) := by have := HA.out; omega
    have hia : i < a := by have := HA.out; omega
    by_cases hna : n ≤ a
    · have hna' : (n : Int) ≤ (a : Int) := by omega
      have HE := hide (Heap.dn_none HU.out (by have := HA.out; omega))
      clear hmeth
      go_wp2_with (first
        | go_skip
        | fail)
      go_ret
      exact ⟨⟨_, rfl⟩, m, HP.out, HD.out, HB0.out, HE.out, HT0.out⟩
    · have hna' : ¬ (n : Int) ≤ (a : Int) := by omega
      have ha0 : ¬ (a : Int) < 0 := by omega
      obtain ⟨c, HC⟩ : ∃ c, Hid (a + 1 = c) := ⟨_, hide rfl⟩
      have hc : (a : Int) + 1 = (c : Int) := by have := HC.out; omega
      have ham : a < m.length := by omega
      have him : i < m.length := by omega
      have HPA := hide (show Heap.par a = i by unfold Heap.par; have := HA.out; omega)
      have HPC := hide (show Heap.par c = i by unfold Heap.par; have := HA.out; have := HC.out; omega)
      have HCA := hide (show a = 2 * i + 1 ∧ c = 2 * i + 2 by have := HA.out; have := HC.out; omega)
      have hac : a < c := by have := HC.out; omega
      by_cases hcn : c < n
      · have hcn' : (c : Int) < (n : Int) := by omega
        obtain ⟨d1, HD1⟩ : ∃ d, Hid (decide (Heap.tlt (Heap.fn m c) (Heap.fn m a)) = d) := ⟨_, hide rfl⟩
        have HL1 := hide (less_calls HB0.out (show c < m.length by omega) ham)
        rw [HD1.out] at HL1
        rcases d1 with _ | _
        · have HLS := hide (show Heap.Least (Heap.fn m) n i a by
            have h := of_decide_eq_false HD1.out
            rw [HCA.out.1, HCA.out.2] at h
            rw [HCA.out.1]
            exact Heap.least_one fun h' => h h'.2)
          obtain ⟨d2, HD2⟩ : ∃ d, Hid (decide (Heap.tlt (Heap.fn m a) (Heap.fn m i)) = d) := ⟨_, hide rfl⟩
          rcases d2 with _ | _
          · have HE := hide (Heap.dn_stop HU.out HLS.out (of_decide_eq_false HD2.out))
            go_wp2_with (first
              | go_skip
              | (show wpList _ _ _ ({ dst := some 32, op := _, type := _, pos := _, after := _, guard := _ } :: _) _ _; (show wpList _ _ _ ({ dst := some 32, op := _, type := _, pos := _, after := _, guard := _ } :: _) _ _; refine wpList_inv (by kernel_rfl) _ _ _ _ rfl b rfl 131 Tryd.call131 v hmeth.out [.int .i64 (c : Int), .int .i64 (a : Int)] (by simp [Act.eval]) HL1.out (by rintro e w' ⟨rfl, _⟩; exact ⟨_, rfl⟩) ?_; rintro u w1 ⟨hu1, hb1, ht1⟩; injection hu1 with hu1; subst hu1; have HB1 := hide hb1; have HT1 := hide (HT0.out.trans ht1); clear hb1 ht1 hmeth HL1 HB0 HT0))
              | (show wpList _ _ _ ({ dst := some 38, op := _, type := _, pos := _, after := _, guard := _ } :: _) _ _; have HQ := hide (less_calls HB1.out (show a < m.length by omega) him); rw [HD2.out] at HQ; have hmethq := hide (meth_val b _ 131 "Less" meth_less0 HB1.out.cell); (show wpList _ _ _ ({ dst := some 38, op := _, type := _, pos := _, after := _, guard := _ } :: _) _ _; refine wpList_inv (by kernel_rfl) _ _ _ _ rfl b rfl 131 Tryd.call131 v hmethq.out [.int .i64 (a : Int), .int .i64 (i : Int)] (by simp [Act.eval]) HQ.out (by rintro e w' ⟨rfl, _⟩; exact ⟨_, rfl⟩) ?_; rintro u w2 ⟨hu1, hb1, ht1⟩; injection hu1 with hu1; subst hu1; have HB2 := hide hb1; have HT2 := hide (HT1.out.trans ht1); clear hb1 ht1 hmethq HQ HB1 HT1)))
            go_ret
            exact ⟨⟨_, rfl⟩, m, HP.out, HD.out, HB2.out, HE.out, HT2.out⟩
          · have HL2 := hide (of_decide_eq_true HD2.out)
            go_wp2_with (first
              | go_skip
              | (show wpList _ _ _ ({ dst := some 32, op := _, type := _, pos := _, after := _, guard := _ } :: _) _ _; (show wpList _ _ _ ({ dst := some 32, op := _, type := _, pos := _, after := _, guard := _ } :: _) _ _; refine wpList_inv (by kernel_rfl) _ _ _ _ rfl b rfl 131 Tryd.call131 v hmeth.out [.int .i64 (c : Int), .int .i64 (a : Int)] (by simp [Act.eval]) HL1.out (by rintro e w' ⟨rfl, _⟩; exact ⟨_, rfl⟩) ?_; rintro u w1 ⟨hu1, hb1, ht1⟩; injection hu1 with hu1; subst hu1; have HB1 := hide hb1; have HT1 := hide (HT0.out.trans ht1); clear hb1 ht1 hmeth HL1 HB0 HT0))
              | (show wpList _ _ _ ({ dst := some 38, op := _, type := _, pos := _, after := _, guard := _ } :: _) _ _; have HQ := hide (less_calls HB1.out (show a < m.length by omega) him); rw [HD2.out] at HQ; have hmethq := hide (meth_val b _ 131 "Less" meth_less0 HB1.out.cell); (show wpList _ _ _ ({ dst := some 38, op := _, type := _, pos := _, after := _, guard := _ } :: _) _ _; refine wpList_inv (by kernel_rfl) _ _ _ _ rfl b rfl 131 Tryd.call131 v hmethq.out [.int .i64 (a : Int), .int .i64 (i : Int)] (by simp [Act.eval]) HQ.out (by rintro e w' ⟨rfl, _⟩; exact ⟨_, rfl⟩) ?_; rintro u w2 ⟨hu1, hb1, ht1⟩; injection hu1 with hu1; subst hu1; have HB2 := hide hb1; have HT2 := hide (HT1.out.trans ht1); clear hb1 ht1 hmethq HQ HB1 HT1))
              | (show wpList _ _ _ ({ dst := some 43, op := _, type := _, pos := _, after := _, guard := _ } :: _) _ _; have hmeths := hide (meth_val b _ 134 "Swap" meth_swap0 HB2.out.cell); have HS := hide (swap_calls HB2.out him (show a < m.length by omega)); (show wpList _ _ _ ({ dst := some 43, op := _, type := _, pos := _, after := _, guard := _ } :: _) _ _; refine wpList_inv (by kernel_rfl) _ _ _ _ rfl b rfl 134 Tryd.call134 v hmeths.out [.int .i64 (i : Int), .int .i64 (a : Int)] (by simp [Act.eval]) HS.out (by rintro e w' ⟨h, _⟩; exact h) ?_; rintro u w9 ⟨hu2, hb2, ht2⟩; have HB9 := hide hb2; have HT9 := hide (HT2.out.trans ht2); clear hu2 hb2 ht2 hmeths HS HB2 HT2)))
            go_roundw
            case measure => simp [intOf]; omega
            case rel =>
              refine ⟨a, Heap.swpL m i a, by go_num, by omega, by rw [Heap.swpL_len]; exact hnm, by rw [Heap.swpL_len]; exact hm2, (Heap.swpL_perm m him (by omega)).trans HP.out, by rw [Heap.swpL_drop m (by omega) (by omega)]; exact HD.out, HB9.out, Heap.dn_stepL HU.out hnm (by omega) (by omega) HPA.out HL2.out HLS.out, HT9.out⟩
        · have HLS := hide (show Heap.Least (Heap.fn m) n i c by
            have h := of_decide_eq_true HD1.out
            rw [HCA.out.1, HCA.out.2] at h
            rw [HCA.out.2]
            exact Heap.least_two h)
          obtain ⟨d2, HD2⟩ : ∃ d, Hid (decide (Heap.tlt (Heap.fn m c) (Heap.fn m i)) = d) := ⟨_, hide rfl⟩
          rcases d2 with _ | _
          · have HE := hide (Heap.dn_stop HU.out HLS.out (of_decide_eq_false HD2.out))
            go_wp2_with (first
              | go_skip
              | (show wpList _ _ _ ({ dst := some 32, op := _, type := _, pos := _, after := _, guard := _ } :: _) _ _; (show wpList _ _ _ ({ dst := some 32, op := _, type := _, pos := _, after := _, guard := _ } :: _) _ _; refine wpList_inv (by kernel_rfl) _ _ _ _ rfl b rfl 131 Tryd.call131 v hmeth.out [.int .i64 (c : Int), .int .i64 (a : Int)] (by simp [Act.eval]) HL1.out (by rintro e w' ⟨rfl, _⟩; exact ⟨_, rfl⟩) ?_; rintro u w1 ⟨hu1, hb1, ht1⟩; injection hu1 with hu1; subst hu1; have HB1 := hide hb1; have HT1 := hide (HT0.out.trans ht1); clear hb1 ht1 hmeth HL1 HB0 HT0))
              | (show wpList _ _ _ ({ dst := some 38, op := _, type := _, pos := _, after := _, guard := _ } :: _) _ _; have HQ := hide (less_calls HB1.out (show c < m.length by omega) him); rw [HD2.out] at HQ; have hmethq := hide (meth_val b _ 131 "Less" meth_less0 HB1.out.cell); (show wpList _ _ _ ({ dst := some 38, op := _, type := _, pos := _, after := _, guard := _ } :: _) _ _; refine wpList_inv (by kernel_rfl) _ _ _ _ rfl b rfl 131 Tryd.call131 v hmethq.out [.int .i64 (c : Int), .int .i64 (i : Int)] (by simp [Act.eval]) HQ.out (by rintro e w' ⟨rfl, _⟩; exact ⟨_, rfl⟩) ?_; rintro u w2 ⟨hu1, hb1, ht1⟩; injection hu1 with hu1; subst hu1; have HB2 := hide hb1; have HT2 := hide (HT1.out.trans ht1); clear hb1 ht1 hmethq HQ HB1 HT1)))
            go_ret
            exact ⟨⟨_, rfl⟩, m, HP.out, HD.out, HB2.out, HE.out, HT2.out⟩
          · have HL2 := hide (of_decide_eq_true HD2.out)
            go_wp2_with (first
              | go_skip
              | (show wpList _ _ _ ({ dst := some 32, op := _, type := _, pos := _, after := _, guard := _ } :: _) _ _; (show wpList _ _ _ ({ dst := some 32, op := _, type := _, pos := _, after := _, guard := _ } :: _) _ _; refine wpList_inv (by kernel_rfl) _ _ _ _ rfl b rfl 131 Tryd.call131 v hmeth.out [.int .i64 (c : Int), .int .i64 (a : Int)] (by simp [Act.eval]) HL1.out (by rintro e w' ⟨rfl, _⟩; exact ⟨_, rfl⟩) ?_; rintro u w1 ⟨hu1, hb1, ht1⟩; injection hu1 with hu1; subst hu1; have HB1 := hide hb1; have HT1 := hide (HT0.out.trans ht1); clear hb1 ht1 hmeth HL1 HB0 HT0))
              | (show wpList _ _ _ ({ dst := some 38, op := _, type := _, pos := _, after := _, guard := _ } :: _) _ _; have HQ := hide (less_calls HB1.out (show c < m.length by omega) him); rw [HD2.out] at HQ; have hmethq := hide (meth_val b _ 131 "Less" meth_less0 HB1.out.cell); (show wpList _ _ _ ({ dst := some 38, op := _, type := _, pos := _, after := _, guard := _ } :: _) _ _; refine wpList_inv (by kernel_rfl) _ _ _ _ rfl b rfl 131 Tryd.call131 v hmethq.out [.int .i64 (c : Int), .int .i64 (i : Int)] (by simp [Act.eval]) HQ.out (by rintro e w' ⟨rfl, _⟩; exact ⟨_, rfl⟩) ?_; rintro u w2 ⟨hu1, hb1, ht1⟩; injection hu1 with hu1; subst hu1; have HB2 := hide hb1; have HT2 := hide (HT1.out.trans ht1); clear hb1 ht1 hmethq HQ HB1 HT1))
              | (show wpList _ _ _ ({ dst := some 43, op := _, type := _, pos := _, after := _, guard := _ } :: _) _ _; have hmeths := hide (meth_val b _ 134 "Swap" meth_swap0 HB2.out.cell); have HS := hide (swap_calls HB2.out him (show c < m.length by omega)); (show wpList _ _ _ ({ dst := some 43, op := _, type := _, pos := _, after := _, guard := _ } :: _) _ _; refine wpList_inv (by kernel_rfl) _ _ _ _ rfl b rfl 134 Tryd.call134 v hmeths.out [.int .i64 (i : Int), .int .i64 (c : Int)] (by simp [Act.eval]) HS.out (by rintro e w' ⟨h, _⟩; exact h) ?_; rintro u w9 ⟨hu2, hb2, ht2⟩; have HB9 := hide hb2; have HT9 := hide (HT2.out.trans ht2); clear hu2 hb2 ht2 hmeths HS HB2 HT2)))
            go_roundw
            case measure => simp [intOf]; omega
            case rel =>
              refine ⟨c, Heap.swpL m i c, by go_num, by omega, by rw [Heap.swpL_len]; exact hnm, by rw [Heap.swpL_len]; exact hm2, (Heap.swpL_perm m him (by omega)).trans HP.out, by rw [Heap.swpL_drop m (by omega) (by omega)]; exact HD.out, HB9.out, Heap.dn_stepL HU.out hnm (by omega) (by omega) HPC.out HL2.out HLS.out, HT9.out⟩
      · have hcn' : ¬ (c : Int) < (n : Int) := by omega
        have HLS := hide (show Heap.Least (Heap.fn m) n i a by
            rw [HCA.out.1]
            exact Heap.least_one fun h' => by have := HCA.out.2; omega)
        clear hmeth
        obtain ⟨d2, HD2⟩ : ∃ d, Hid (decide (Heap.tlt (Heap.fn m a) (Heap.fn m i)) = d) := ⟨_, hide rfl⟩
        rcases d2 with _ | _
        · have HE := hide (Heap.dn_stop HU.out HLS.out (of_decide_eq_false HD2.out))
          go_wp2_with (first
            | go_skip
            | (show wpList _ _ _ ({ dst := some 38, op := _, type := _, pos := _, after := _, guard := _ } :: _) _ _; have HQ := hide (less_calls HB0.out (show a < m.length by omega) him); rw [HD2.out] at HQ; have hmethq := hide (meth_val b _ 131 "Less" meth_less0 HB0.out.cell); (show wpList _ _ _ ({ dst := some 38, op := _, type := _, pos := _, after := _, guard := _ } :: _) _ _; refine wpList_inv (by kernel_rfl) _ _ _ _ rfl b rfl 131 Tryd.call131 v hmethq.out [.int .i64 (a : Int), .int .i64 (i : Int)] (by simp [Act.eval]) HQ.out (by rintro e w' ⟨rfl, _⟩; exact ⟨_, rfl⟩) ?_; rintro u w1 ⟨hu1, hb1, ht1⟩; injection hu1 with hu1; subst hu1; have HB1 := hide hb1; have HT1 := hide (HT0.out.trans ht1); clear hb1 ht1 hmethq HQ HB0 HT0)))
          go_ret
          exact ⟨⟨_, rfl⟩, m, HP.out, HD.out, HB1.out, HE.out, HT1.out⟩
        · have HL2 := hide (of_decide_eq_true HD2.out)
          go_wp2_with (first
            | go_skip
            | (show wpList _ _ _ ({ dst := some 38, op := _, type := _, pos := _, after := _, guard := _ } :: _) _ _; have HQ := hide (less_calls HB0.out (show a < m.length by omega) him); rw [HD2.out] at HQ; have hmethq := hide (meth_val b _ 131 "Less" meth_less0 HB0.out.cell); (show wpList _ _ _ ({ dst := some 38, op := _, type := _, pos := _, after := _, guard := _ } :: _) _ _; refine wpList_inv (by kernel_rfl) _ _ _ _ rfl b rfl 131 Tryd.call131 v hmethq.out [.int .i64 (a : Int), .int .i64 (i : Int)] (by simp [Act.eval]) HQ.out (by rintro e w' ⟨rfl, _⟩; exact ⟨_, rfl⟩) ?_; rintro u w1 ⟨hu1, hb1, ht1⟩; injection hu1 with hu1; subst hu1; have HB1 := hide hb1; have HT1 := hide (HT0.out.trans ht1); clear hb1 ht1 hmethq HQ HB0 HT0))
            | (show wpList _ _ _ ({ dst := some 43, op := _, type := _, pos := _, after := _, guard := _ } :: _) _ _; have hmeths := hide (meth_val b _ 134 "Swap" meth_swap0 HB1.out.cell); have HS := hide (swap_calls HB1.out him (show a < m.length by omega)); (show wpList _ _ _ ({ dst := some 43, op := _, type := _, pos := _, after := _, guard := _ } :: _) _ _; refine wpList_inv (by kernel_rfl) _ _ _ _ rfl b rfl 134 Tryd.call134 v hmeths.out [.int .i64 (i : Int), .int .i64 (a : Int)] (by simp [Act.eval]) HS.out (by rintro e w' ⟨h, _⟩; exact h) ?_; rintro u w9 ⟨hu2, hb2, ht2⟩; have HB9 := hide hb2; have HT9 := hide (HT1.out.trans ht2); clear hu2 hb2 ht2 hmeths HS HB1 HT1)))
          go_roundw
          case measure => simp [intOf]; omega
          case rel =>
            refine ⟨a, Heap.swpL m i a, by go_num, by omega, by rw [Heap.swpL_len]; exact hnm, by rw [Heap.swpL_len]; exact hm2, (Heap.swpL_perm m him (by omega)).trans HP.out, by rw [Heap.swpL_drop m (by omega) (by omega)]; exact HD.out, HB9.out, Heap.dn_stepL HU.out hnm (by omega) (by omega) HPA.out HL2.out HLS.out, HT9.out⟩
end Go.Proofs.YtgjepahhbecljaaDoor

namespace Go.Proofs.YtgjepahhbecljaaDoor
open Go Go.RowKit
set_option linter.unusedVariables false
set_option linter.unusedSimpArgs false
set_option maxRecDepth 100000
section
variable {P : Program} {o : Oper} {a : Act} {w : World} {K : Act → World → Prop} {Q : Exit → Act → World → Prop} {ops : Array Oper} {rest : List Oper}
theorem wp_exD {v : Value} (d : Nat) (hd : o.dst = some d) (h : (execOp a.eval o).run P w = .ok (.value v) w) (hn : K (a.put (some d) v) w) : o.wp P a w K Q := by
  unfold Oper.wp
  rw [h, Oper.upon_value, hd]
  exact hn
theorem wpList_ex {v : Value} (hgd : o.guard = none) (h : (execOp a.eval o).run P w = .ok (.value v) w) (hn : wpList P ops Q rest (a.put o.dst v) w) : wpList P ops Q (o :: rest) a w :=
  wpList_plain hgd fun _ hK => by
    unfold Oper.wp
    rw [h, Oper.upon_value]
    exact hK _ _ hn
theorem exec_nilCheckT (x : Operand) (ho : o.op = .nilCheck x) (p : Addr) (hx : a.eval x = .pointer (some p)) : (execOp a.eval o).run Tryd.prog w = .ok (.value (.pointer (some p))) w := by
  unfold execOp
  simp only [ho, hx]
  go_simp
theorem wp_lit_turn (y : Operand) (ho : o.op = .buildSlice 81 1 #[(0, y)]) (x : Heap.T) (hx : x.2.length = 32) (hy : a.eval y = .agg (turnC x).toArray)
    (h : ∀ w', Blk w' w.heap.size 84 (turnC x) → Below w.heap.size w w' → w'.heap.size = w.heap.size + 1 → K (a.put o.dst (.slice (some ⟨w.heap.size, 0, none⟩) 1 1)) w') : o.wp Tryd.prog a w K Q := by
  obtain ⟨i, z, ht, hi, hz, hsize, hby, hzs, _, _⟩ := el_turn
  refine wp_buildSlice 81 84 1 _ ho (turnC x).toArray i z ht hi hz (by rw [hsize]; omega) (by rw [hsize]; omega) ?_ (h _ (Blk.new w 84 (turnC x)) ((Below.refl _ _).alloc (Nat.le_refl _) _) (by simp))
  have e : (#[(0, y)].map fun (p : Nat × Operand) => (p.1, a.eval p.2)).toList = ([Value.agg (turnC x).toArray].zipIdx 0).map fun x => (x.2, x.1) := by simp [hy]
  rw [e, hsize]
  have := Great.fill_whole (s := 33) (by decide) [Value.agg (turnC x).toArray] ((Array.range (1 * 33)).map (z.cells[· % z.cells.size]!)) (by intro u hu; rw [List.mem_singleton.1 hu]; show (turnC x).toArray.size = 33; rw [List.size_toArray, turnC_len hx]) (by simp)
  rw [this]
  congr 2
  show ([Value.agg (turnC x).toArray].flatMap fun v => v.cells.toList) = turnC x
  simp [Value.cells]
theorem wp_lit_turnD (d : Nat) (hd : o.dst = some d) (y : Operand) (ho : o.op = .buildSlice 81 1 #[(0, y)]) (x : Heap.T) (hx : x.2.length = 32) (hy : a.eval y = .agg (turnC x).toArray)
    (h : ∀ w', Blk w' w.heap.size 84 (turnC x) → Below w.heap.size w w' → w'.heap.size = w.heap.size + 1 → K (a.put (some d) (.slice (some ⟨w.heap.size, 0, none⟩) 1 1)) w') : o.wp Tryd.prog a w K Q :=
  wp_lit_turn y ho x hx hy fun w' h1 h2 h3 => by rw [hd]; exact h w' h1 h2 h3
theorem size_turns : (Tryd.prog.info? 81).map (·.size) = some 1 := by kernel_rfl
theorem wp_turns_put {b : Nat} {v v0 : Value} (hd : o.dst = none) (x y : Operand) (ho : o.op = .store 81 x y) (hx : a.eval x = .pointer (some ⟨b, 0, none⟩)) (hB : Blk w b 81 [v0]) (hy : a.eval y = v) (h1 : v.oneCell' = true)
    (h : ∀ w', Blk w' b 81 [v] → w.grownBy w' (some b) → w'.heap.size = w.heap.size → K (a.put none undef) w') : o.wp Tryd.prog a w K Q := by
  have hg := grown_setCells (g := b) [v] w 0
  refine wp_store_one _ x y ho b 0 hx _ hy (by rw [hB.cell]; rfl) (Blk.frozen hB _) h1 size_turns ?_
  rw [hd]
  exact h _ (Blk.set_ hB 0 v) hg.1 hg.2
theorem wpList_turns_put {b : Nat} {v v0 : Value} (hgd : o.guard = none) (x y : Operand) (ho : o.op = .store 81 x y) (hx : a.eval x = .pointer (some ⟨b, 0, none⟩)) (hB : Blk w b 81 [v0]) (hy : a.eval y = v) (h1 : v.oneCell' = true)
    (h : ∀ w', Blk w' b 81 [v] → w.grownBy w' (some b) → w'.heap.size = w.heap.size → wpList Tryd.prog ops Q rest (a.put o.dst undef) w') : wpList Tryd.prog ops Q (o :: rest) a w := 
  wpList_plain hgd fun _ hK => by
    have hg := grown_setCells (g := b) [v] w 0
    exact wp_store_one _ x y ho b 0 hx _ hy (by rw [hB.cell]; rfl) (Blk.frozen hB _) h1 size_turns (hK _ _ (h _ (Blk.set_ hB 0 v) hg.1 hg.2))
theorem RowT.kept {w' : World} {base : Nat} {v : Value} {l : List Heap.T} {row : Option Nat} (h : RowT w base v l) (hg : w.grownBy w' row) (hne : v.ownBlock = none ∨ v.ownBlock ≠ row) : RowT w' base v l := ⟨h.1.kept hg hne, h.2⟩
theorem Turned.of_own {w' : World} {base : Nat} {v : Value} {l : List Heap.T} (h : RowT w base v l) (hg : w.grownBy w' v.ownBlock) (hs : base ≤ w.heap.size) : Turned base w w' := by
  rcases h.1.2 with ⟨rfl, _⟩ | ⟨g, cap, cur, e, hbg, hB, _⟩
  · exact ⟨⟨hg.os, hg.tape, hg.output, hg.size, fun k hk => hg.block k (by omega) (by simp [Value.ownBlock])⟩, fun k hk _ => hg.block k hk (by simp [Value.ownBlock])⟩
  · rw [e] at hg
    exact Turned.of_grown hg hbg hs hB (.inr rfl)
theorem turnsC_take : ∀ {l : List Heap.T}, WfT l → ∀ n, (turnsC l).take (n * 33) = turnsC (l.take n)
  | [], _, n => by simp [turnsC]
  | x :: l, h, 0 => by simp [turnsC]
  | x :: l, h, n + 1 => by
    have ih := turnsC_take (l := l) (fun y hy => h y (List.mem_cons_of_mem _ hy)) n
    show (turnC x ++ turnsC l).take ((n + 1) * 33) = turnC x ++ turnsC (l.take n)
    rw [List.take_append, turnC_len (h x List.mem_cons_self).1, show (n + 1) * 33 - 33 = n * 33 by omega, ih, List.take_of_length_le (by rw [turnC_len (h x List.mem_cons_self).1]; omega)]
theorem RowT.cut {base g n m c : Nat} {l : List Heap.T} (h : RowT w base (.slice (some ⟨g, 0, none⟩) m c) l) (hn : n ≤ l.length) : RowT w base (.slice (some ⟨g, 0, none⟩) n c) (l.take n) := by
  obtain ⟨⟨hl, hv⟩, hw⟩ := h
  have hw' : WfT (l.take n) := fun y hy => hw y (List.mem_of_mem_take hy)
  have hl' : (l.take n).length = n := by rw [List.length_take]; omega
  refine ⟨⟨turnsC_len hw', ?_⟩, hw'⟩
  rcases hv with ⟨h1, _⟩ | ⟨g', cap, cur, e, hbg, hB, h1, h2, h3, h4⟩
  · cases h1
  · injection e with e1 e2 e3
    injection e1 with e1
    injection e1 with e1
    subst e1 e3
    refine .inr ⟨g, c, cur, by rw [hl'], hbg, hB, by omega, h2, h3, ?_⟩
    rw [hl', ← turnsC_take hw n, ← h4, List.take_take, Nat.min_eq_left (by omega)]
theorem wpList_turn_load (hgd : o.guard = none) (x : Operand) (ho : o.op = .load 84 x) (base : Nat) (v : Value) (l : List Heap.T) (i g : Nat) {n c : Nat} (hv : v = .slice (some ⟨g, 0, none⟩) n c) (hx : a.eval x = .pointer (some ⟨g, i * 33, none⟩)) (hR : RowT w base v l) (hi : i < l.length) (X : Heap.T) (hX : l[i] = X)
    (h : wpList Tryd.prog ops Q rest (a.put o.dst (.agg (turnC X).toArray)) w) : wpList Tryd.prog ops Q (o :: rest) a w :=
  wpList_plain hgd fun K hK => by
    obtain ⟨g', c', e, _, _, _, _, hc⟩ := hR.open_ (by omega)
    rw [hv] at e
    injection e with e1 e2 e3
    injection e1 with e1
    injection e1 with e1
    subst e1
    have hw := hR.2 _ (List.getElem_mem hi)
    rw [hX] at hw
    exact wp_load_mid _ x ho g (i * 33) hx (turnC X) _ (fun j u hu => hc i hi j u (by rw [hX]; exact hu)) Tryd.underlying84 rfl (by rw [turnC_len hw.1]; exact size_turn) (hK _ _ h)
theorem wpList_blk_load (hgd : o.guard = none) (ty : TypeId) (x : Operand) (ho : o.op = .load ty x) (g : Nat) (hx : a.eval x = .pointer (some ⟨g, 0, none⟩)) (cs : List Value) {t : TypeId} (hB : Blk w g t cs) {d : TypeDesc} (hu : P.underlying ty = some d) (hd : d.isRow = true) (hi : (P.info? ty).map (·.size) = some cs.length)
    (h : wpList P ops Q rest (a.put o.dst (.agg cs.toArray)) w) : wpList P ops Q (o :: rest) a w :=
  wpList_plain hgd fun K hK => wp_load_mid _ x ho g 0 hx cs _ (blk_range hB 0 cs (fun j u hu => by rw [Nat.zero_add]; exact hu)) hu hd hi (hK _ _ h)
theorem zero_turn : (Tryd.prog.info? 84).map (·.zero) = some (some (.agg (turnC (0, List.replicate 32 0)).toArray)) := by kernel_rfl
theorem HeapB.grown {w' : World} {base b : Nat} {v : Value} {l : List Heap.T} {row : Option Nat} (h : HeapB w base b v l) (hg : w.grownBy w' row) (h1 : some b ≠ row) (h2 : v.ownBlock ≠ row) : HeapB w' base b v l := ⟨h.1.grown hg h1, h.2.1, h.2.2.kept hg (.inr h2)⟩
theorem Blk.unlike {g g' : Nat} {t t' : TypeId} {cs cs' : List Value} (h : Blk w g t cs) (h' : Blk w g' t' cs') (hne : t ≠ t') : g ≠ g' := fun e => by
  subst e
  unfold Blk at h h'
  rw [h] at h'
  injection h' with h'
  injection h' with _ h'
  exact hne h'
theorem lset_whole {cs vs : List Value} (h : vs.length = cs.length) : lset cs 0 vs = vs := by
  refine List.ext_getElem? fun k => ?_
  rw [lset_get _ _ _ _ (by omega)]
  by_cases hk : k < vs.length
  · rw [if_pos (by omega)]; simp
  · rw [if_neg (by omega), List.getElem?_eq_none (by omega), List.getElem?_eq_none (by omega)]
end
set_option maxHeartbeats 8000000
theorem turns_push (x : Heap.T) (v : Value) (l : List Heap.T) (w : World) (base b : Nat) (h : HeapB w base b v l) (hx : x.2.length = 32 ∧ Bytes x.2) (hm : l.length ≤ 1000) :
    Calls Tryd.prog 133 #[.pointer (some ⟨b, 0, none⟩), .iface 84 (.agg (turnC x).toArray)] w fun e w' => ∃ u, e = .returned u ∧ ∃ v', HeapB w' base b v' (l ++ [x]) ∧ Turned base w w' := by
  have HB := hide h
  have HX := hide hx
  have HT := hide (Turned.refl base w)
  clear h hx
  go_enter Tryd.func133, Tryd.ntmps133
  refine wp_region_held_drew (S := fun _ => True) (by kernel_rfl) trivial (fun hHeld => ?_)
  replace HB := hide (HB.out.keptB (Below.refl _ _).drew)
  replace HT := hide (HT.out.drew)
  refine take_d 4 (i := 0) (v := .pointer (some ⟨b, 0, none⟩)) rfl (by kernel_rfl) (by kernel_rfl) (by kernel_rfl) (by kernel_rfl) (fun _ _ _ h => h) (Or.inl ⟨by kernel_rfl, fun w' hS => exec_move _ rfl _ rfl⟩) hHeld ?_
  try simp only [Act.put, List.setIfInBounds_toArray, List.set_cons_zero, List.set_cons_succ]
  refine take_d 5 (i := 1) (v := .pointer (some ⟨b, 0, none⟩)) rfl (by kernel_rfl) (by kernel_rfl) (by kernel_rfl) (by kernel_rfl) (fun _ _ _ h => h) (Or.inl ⟨by kernel_rfl, fun w' hS => exec_move _ rfl _ rfl⟩) hHeld ?_
  try simp only [Act.put, List.setIfInBounds_toArray, List.set_cons_zero, List.set_cons_succ]
  refine take_d 6 (i := 2) (v := .pointer (some ⟨b, 0, none⟩)) rfl (by kernel_rfl) (by kernel_rfl) (by kernel_rfl) (by kernel_rfl) (fun _ _ _ h => h) (Or.inl ⟨by kernel_rfl, fun w' hS => exec_nilCheckT _ rfl _ rfl⟩) hHeld ?_
  try simp only [Act.put, List.setIfInBounds_toArray, List.set_cons_zero, List.set_cons_succ]
  refine take_d 8 (i := 4) (v := .iface 84 (.agg (turnC x).toArray)) rfl (by kernel_rfl) (by kernel_rfl) (by kernel_rfl) (by kernel_rfl) (fun _ _ _ h => h) (Or.inl ⟨by kernel_rfl, fun w' hS => exec_move _ rfl _ rfl⟩) hHeld ?_
  try simp only [Act.put, List.setIfInBounds_toArray, List.set_cons_zero, List.set_cons_succ]
  refine take_d 9 (i := 5) (v := .agg (turnC x).toArray) rfl (by kernel_rfl) (by kernel_rfl) (by kernel_rfl) (by kernel_rfl) (fun _ _ _ h => h) (Or.inl ⟨by kernel_rfl, fun w' hS => exec_assert_turn _ _ rfl _ rfl⟩) hHeld ?_
  try simp only [Act.put, List.setIfInBounds_toArray, List.set_cons_zero, List.set_cons_succ]
  refine wpAnyH_ready (rs := [3, 6]) (by kernel_rfl) (by simp) (AllReadyH.cons rfl (fun K hK => ?q1_3) (AllReadyH.cons rfl (fun K hK => ?q2_6) AllReadyH.nil))
  case q1_3 =>
    rw [if_pos (by kernel_rfl)]
    refine wp_exD 7 rfl (exec_load_one _ _ rfl b 0 rfl _ Tryd.underlying81 rfl _ HB.out.cell) ?_
    refine hK.out _ _ hHeld (fun hHeld => ?_)
    clear hK K
    try simp only [Act.put, List.setIfInBounds_toArray, List.set_cons_zero, List.set_cons_succ]
    refine wpAnyH_ready (rs := [6]) (by kernel_rfl) (by simp) (AllReadyH.cons rfl (fun K hK => ?_) AllReadyH.nil)
    rw [if_pos (by kernel_rfl)]
    refine wp_lit_turnD 10 rfl _ rfl x HX.out.1 rfl ?_
    intro wl hbl hbb hsz
    have HL := hide (Rd.of_blk (B := wl.heap.size) hbl (by omega) 33 1 1 (by rw [turnC_len HX.out.1]) (Nat.le_refl _) (by decide))
    have HT2 := hide (HT.out.trans (Turned.of_below hbb HB.out.size))
    replace HB := hide (HB.out.keptB hbb)
    replace HT := HT2
    clear hbl hbb hsz HT2
    refine hK.out _ _ hHeld (fun hHeld => ?_)
    clear hK K
    try simp only [Act.put, List.setIfInBounds_toArray, List.set_cons_zero, List.set_cons_succ]
    refine wpAnyH_ready (rs := [7]) (by kernel_rfl) (by simp) (AllReadyH.cons rfl (fun K hK => ?_) AllReadyH.nil)
    rw [if_pos (by kernel_rfl)]
    refine wp_append_rdD _ 11 rfl _ _ _ rfl base _ 33 40 el_turn v l.length (turnsC l) rfl HB.out.2.2.1 _ _ 1 (turnC x) rfl HL.out (turnC_one x) (by omega) HB.out.size ?_
    intro v2 w2 ho2 hg2 _
    have HR := hide (RowT.push ho2 HB.out.2.2.2 HX.out)
    have HK := hide (HB.out.1.grown hg2 (own_ne_blk HB.out.2.2.1 HB.out.1 (by decide)))
    have HT2 := hide (HT.out.trans (Turned.of_own HB.out.2.2 hg2 HB.out.size))
    have hsb := HB.out.2.1
    replace HT := HT2
    clear HT2 ho2 hg2 HL HB
    refine hK.out _ _ hHeld (fun hHeld => ?_)
    clear hK K
    try simp only [Act.put, List.setIfInBounds_toArray, List.set_cons_zero, List.set_cons_succ]
    refine take_d 12 (i := 8) (v := .pointer (some ⟨b, 0, none⟩)) rfl (by kernel_rfl) (by kernel_rfl) (by kernel_rfl) (by kernel_rfl) (fun _ _ _ h => h) (Or.inl ⟨by kernel_rfl, fun w' hS => exec_nilCheckT _ rfl _ rfl⟩) hHeld ?_
    try simp only [Act.put, List.setIfInBounds_toArray, List.set_cons_zero, List.set_cons_succ]
    refine wpAnyH_ready (rs := [9]) (by kernel_rfl) (by simp) (AllReadyH.cons rfl (fun K hK => ?_) AllReadyH.nil)
    rw [if_pos (by kernel_rfl)]
    refine wp_turns_put rfl _ _ rfl rfl HK.out rfl (own_one HR.out.1 v2 (List.mem_singleton.2 rfl)) ?_
    intro w3 hb3 hg3 hz3
    have HB3 := hide (show HeapB w3 base b v2 (l ++ [x]) from ⟨hb3, hsb, HR.out.kept hg3 (.inr (Ne.symm (own_ne_blk HR.out.1 HK.out (by decide))))⟩)
    have HT3 := hide (HT.out.trans (Turned.of_grown hg3 hsb (by have := HK.out.lt; omega) HK.out (.inl rfl)))
    clear hb3 hg3 hz3 HK HR HT
    refine hK.out _ _ hHeld (fun hHeld => ?_)
    clear hK K
    try simp only [Act.put, List.setIfInBounds_toArray, List.set_cons_zero, List.set_cons_succ]
    refine wpAnyH_done (by kernel_rfl) ?_ _
    first | go_wp2_with fail | skip
    exact bodyPost_end (v := .tuple #[]) (results_none rfl _ _) rfl ⟨_, rfl, v2, HB3.out, HT3.out⟩
  case q2_6 =>
    rw [if_pos (by kernel_rfl)]
    refine wp_lit_turnD 10 rfl _ rfl x HX.out.1 rfl ?_
    intro wl hbl hbb hsz
    have HL := hide (Rd.of_blk (B := wl.heap.size) hbl (by omega) 33 1 1 (by rw [turnC_len HX.out.1]) (Nat.le_refl _) (by decide))
    have HT2 := hide (HT.out.trans (Turned.of_below hbb HB.out.size))
    replace HB := hide (HB.out.keptB hbb)
    replace HT := HT2
    clear hbl hbb hsz HT2
    refine hK.out _ _ hHeld (fun hHeld => ?_)
    clear hK K
    try simp only [Act.put, List.setIfInBounds_toArray, List.set_cons_zero, List.set_cons_succ]
    refine wpAnyH_ready (rs := [3]) (by kernel_rfl) (by simp) (AllReadyH.cons rfl (fun K hK => ?_) AllReadyH.nil)
    rw [if_pos (by kernel_rfl)]
    refine wp_exD 7 rfl (exec_load_one _ _ rfl b 0 rfl _ Tryd.underlying81 rfl _ HB.out.cell) ?_
    refine hK.out _ _ hHeld (fun hHeld => ?_)
    clear hK K
    try simp only [Act.put, List.setIfInBounds_toArray, List.set_cons_zero, List.set_cons_succ]
    refine wpAnyH_ready (rs := [7]) (by kernel_rfl) (by simp) (AllReadyH.cons rfl (fun K hK => ?_) AllReadyH.nil)
    rw [if_pos (by kernel_rfl)]
    refine wp_append_rdD _ 11 rfl _ _ _ rfl base _ 33 40 el_turn v l.length (turnsC l) rfl HB.out.2.2.1 _ _ 1 (turnC x) rfl HL.out (turnC_one x) (by omega) HB.out.size ?_
    intro v2 w2 ho2 hg2 _
    have HR := hide (RowT.push ho2 HB.out.2.2.2 HX.out)
    have HK := hide (HB.out.1.grown hg2 (own_ne_blk HB.out.2.2.1 HB.out.1 (by decide)))
    have HT2 := hide (HT.out.trans (Turned.of_own HB.out.2.2 hg2 HB.out.size))
    have hsb := HB.out.2.1
    replace HT := HT2
    clear HT2 ho2 hg2 HL HB
    refine hK.out _ _ hHeld (fun hHeld => ?_)
    clear hK K
    try simp only [Act.put, List.setIfInBounds_toArray, List.set_cons_zero, List.set_cons_succ]
    refine take_d 12 (i := 8) (v := .pointer (some ⟨b, 0, none⟩)) rfl (by kernel_rfl) (by kernel_rfl) (by kernel_rfl) (by kernel_rfl) (fun _ _ _ h => h) (Or.inl ⟨by kernel_rfl, fun w' hS => exec_nilCheckT _ rfl _ rfl⟩) hHeld ?_
    try simp only [Act.put, List.setIfInBounds_toArray, List.set_cons_zero, List.set_cons_succ]
    refine wpAnyH_ready (rs := [9]) (by kernel_rfl) (by simp) (AllReadyH.cons rfl (fun K hK => ?_) AllReadyH.nil)
    rw [if_pos (by kernel_rfl)]
    refine wp_turns_put rfl _ _ rfl rfl HK.out rfl (own_one HR.out.1 v2 (List.mem_singleton.2 rfl)) ?_
    intro w3 hb3 hg3 hz3
    have HB3 := hide (show HeapB w3 base b v2 (l ++ [x]) from ⟨hb3, hsb, HR.out.kept hg3 (.inr (Ne.symm (own_ne_blk HR.out.1 HK.out (by decide))))⟩)
    have HT3 := hide (HT.out.trans (Turned.of_grown hg3 hsb (by have := HK.out.lt; omega) HK.out (.inl rfl)))
    clear hb3 hg3 hz3 HK HR HT
    refine hK.out _ _ hHeld (fun hHeld => ?_)
    clear hK K
    try simp only [Act.put, List.setIfInBounds_toArray, List.set_cons_zero, List.set_cons_succ]
    refine wpAnyH_done (by kernel_rfl) ?_ _
    first | go_wp2_with fail | skip
    exact bodyPost_end (v := .tuple #[]) (results_none rfl _ _) rfl ⟨_, rfl, v2, HB3.out, HT3.out⟩
theorem turns_pop (v : Value) (l : List Heap.T) (n : Nat) (w : World) (base b : Nat) (h : HeapB w base b v l) (hn : l.length = n + 1) (hm : l.length ≤ 1000) :
    Calls Tryd.prog 132 #[.pointer (some ⟨b, 0, none⟩)] w fun e w' => e = .returned (.iface 84 (.agg (turnC (Heap.fn l n)).toArray)) ∧ ∃ v', HeapB w' base b v' (l.take n) ∧ Turned base w w' := by
  obtain ⟨g, c, rfl, hbg, hgw, hlc, hcm, _⟩ := h.2.2.open_ (by omega)
  rw [hn] at hlc
  obtain ⟨X, HXX⟩ : ∃ x, Hid (Heap.fn l n = x) := ⟨_, hide rfl⟩
  have HX2 := hide (show l[n]'(by omega) = X by rw [← HXX.out]; exact (Heap.getD_in l (by omega)).symm)
  have HX := hide (show X.2.length = 32 by rw [← HX2.out]; exact (h.2.2.2 _ (List.getElem_mem _)).1)
  have HB := hide h
  obtain ⟨m, HM⟩ : ∃ m, Hid (n + 1 = m) := ⟨_, hide rfl⟩
  have HN := hide (show l.length = m by rw [hn]; exact HM.out)
  rw [HN.out] at HB
  rw [HM.out] at hlc hn
  rw [HXX.out]
  have hm1 : (m : Int) - 1 = (n : Int) := by have := HM.out; omega
  have hnm : n < m := by have := HM.out; omega
  have hnc : (n : Int) ≤ (c : Int) := by omega
  have hc0 : w.cell? ⟨b, 0, none⟩ = some (.slice (some ⟨g, 0, none⟩) m c) := HB.out.cell
  have hsb := HB.out.size
  rw [maxLen_eq] at hcm
  clear h hn HM
  go_enter Tryd.func132, Tryd.ntmps132
  go_wp2_with (first
    | (refine wpList_ex rfl (exec_index_turn _ _ rfl g m c (n : Int) n rfl rfl rfl hnm) ?_)
    | (refine wpList_turn_load rfl _ rfl base _ l n g rfl rfl HB.out.2.2 (by rw [HN.out]; exact hnm) X HX2.out ?_)
    | (refine wpList_alloc_blk rfl 84 rfl (turnC (0, List.replicate 32 0)) zero_turn ?_; intro w1 hb1 hw1 hz1; have HB1 := hide (HB.out.keptB hw1); have HT1 := hide (Turned.of_below hw1 hsb); have HK1 := hide hb1; have hc1 : w1.cell? ⟨b, 0, none⟩ = some (.slice (some ⟨g, 0, none⟩) m c) := HB1.out.cell; clear hb1 hw1 HB hc0)
    | (refine wpList_store_blk rfl 84 _ _ rfl w.heap.size 0 (turnC X) rfl rfl _ _ HK1.out (by rw [turnC_len HX.out, turnC_len (by simp)]; omega) (by rw [turnC_len HX.out]; exact size_turn) (turnC_one X) ?_; intro w2 hb2 hg2 hz2; have HB2 := hide (HeapB.grown HB1.out hg2 (by intro e; injection e with e; exact Blk.unlike HB1.out.1 HK1.out (by decide) e) (by simp only [Value.ownBlock]; intro e; injection e with e; omega)); have HT2 := hide (HT1.out.trans (Turned.of_grown hg2 hsb (by omega) HK1.out (.inr rfl))); have HK2 := hide hb2; have hc2 : w2.cell? ⟨b, 0, none⟩ = some (.slice (some ⟨g, 0, none⟩) m c) := HB2.out.cell; clear hb2 hg2 HB1 HT1 HK1 hc1)
    | (refine wpList_turns_put (v := .slice (some ⟨g, 0, none⟩) n c) rfl _ _ rfl rfl HB2.out.1 rfl rfl ?_; intro w3 hb3 hg3 hz3; have HR3 := hide ((RowT.cut HB2.out.2.2 (show n ≤ l.length by rw [HN.out]; omega)).kept hg3 (.inr (by simp only [Value.ownBlock]; intro e; injection e with e; exact HB2.out.ne rfl e))); have HB3 := hide (show HeapB w3 base b (.slice (some ⟨g, 0, none⟩) n c) (l.take n) from ⟨hb3, HB2.out.2.1, HR3.out⟩); have HT3 := hide (HT2.out.trans (Turned.of_grown hg3 HB2.out.2.1 HB2.out.size HB2.out.1 (.inl rfl))); have HK3 := hide (HK2.out.grown hg3 (by intro e; injection e with e; exact Blk.unlike HB2.out.1 HK2.out (by decide) e.symm)); clear hb3 hg3 HB2 HT2 HK2 hc2 HR3)
    | (refine wpList_blk_load rfl 84 _ rfl w.heap.size rfl (turnC X) (by have := HK3.out; rwa [lset_whole (by rw [turnC_len HX.out, turnC_len (by simp)])] at this) Tryd.underlying84 rfl (by rw [turnC_len HX.out]; exact size_turn) ?_))
  go_ret
  exact ⟨rfl, _, HB3.out, HT3.out⟩
end Go.Proofs.YtgjepahhbecljaaDoor

namespace Go.Proofs.YtgjepahhbecljaaDoor
open Go Go.RowKit
set_option linter.unusedVariables false
set_option linter.unusedSimpArgs false
set_option maxRecDepth 100000
set_option maxHeartbeats 8000000
theorem len_calls {v : Value} {l : List Heap.T} {w : World} {base b : Nat} (h : HeapB w base b v l) : Calls Tryd.prog 75 (v :: []).toArray w fun e w' => e = .returned (.int .i64 (l.length : Int)) ∧ w = w' := turns_len v l w base h.2.2
theorem heap_push (x : Heap.T) (v : Value) (l : List Heap.T) (w : World) (base b : Nat) (h : HeapB w base b v l) (hx : x.2.length = 32 ∧ Bytes x.2) (hm : l.length < 1000) (hI : Heap.Is Heap.tlt (Heap.fn l) l.length) :
    Calls Tryd.prog 74 #[hp b, .iface 84 (.agg (turnC x).toArray)] w fun e w' => (∃ u, e = .returned u) ∧ ∃ v' l', l'.Perm (x :: l) ∧ HeapB w' base b v' l' ∧ Heap.Is Heap.tlt (Heap.fn l') l'.length ∧ Turned base w w' := by
  have HB := hide h
  have HI := hide hI
  have HPU := hide (turns_push x v l w base b h hx (by omega))
  obtain ⟨X, HX⟩ : ∃ x', Hid (Value.iface 84 (.agg (turnC x).toArray) = x') := ⟨_, hide rfl⟩
  rw [HX.out] at HPU ⊢
  have hmeth := hide (meth_push b w)
  clear h hI
  go_enter Tryd.func74, Tryd.ntmps74
  go_wp2_with (first
    | (show wpList _ _ _ ({ dst := some 6, op := _, type := _, pos := _, after := _, guard := _ } :: _) _ _; refine wpList_inv (by kernel_rfl) _ _ _ _ rfl b rfl 133 Tryd.call133 _ hmeth.out [X] (by simp [Act.eval]) HPU.out (by rintro e w' ⟨u, h, _⟩; exact ⟨u, h⟩) ?_; rintro u w1 ⟨u1, hu1, v1, hb1, ht1⟩; have HB1 := hide hb1; have HT1 := hide ht1; have hmeth2 := hide (meth_val b w1 75 "Len" meth_len0 hb1.cell); have HL := hide (len_calls hb1); obtain ⟨n, HN⟩ : ∃ n, Hid ((l ++ [x]).length = n) := ⟨_, hide rfl⟩; rw [HN.out] at HL; obtain ⟨j, HJ⟩ : ∃ j, Hid (l.length = j) := ⟨_, hide rfl⟩; have hj1 : (n : Int) - 1 = (j : Int) := (by have h1 := HN.out; have h2 := HJ.out; rw [List.length_append, h2] at h1; simp at h1; omega); have hjb : j < 1000 := (by have h2 := HJ.out; omega); clear hu1 hb1 ht1 HPU hmeth HB)
    | (show wpList _ _ _ ({ dst := some 9, op := _, type := _, pos := _, after := _, guard := _ } :: _) _ _; refine wpList_inv (by kernel_rfl) _ _ _ _ rfl b rfl 75 Tryd.call75 v1 hmeth2.out [] (by simp) HL.out (by rintro e w' ⟨rfl, _⟩; exact ⟨_, rfl⟩) ?_; rintro u2 w2 ⟨hu2, hw2⟩; injection hu2 with hu2; subst hu2; subst hw2; clear hmeth2 HL))
  refine (heap_up v1 (l ++ [x]) w1 base b j HB1.out (by rw [List.length_append, HJ.out]; simp) (by rw [List.length_append]; simp; omega) (by rw [← HJ.out]; have := Heap.push_new HI.out x; rwa [show l.length + 1 = (l ++ [x]).length by simp] at this)).mono ?_
  rintro e w3 ⟨⟨u3, rfl⟩, l3, hp3, hb3, hi3, ht3⟩
  have HF := hide (show ∃ v' l', l'.Perm (x :: l) ∧ HeapB w3 base b v' l' ∧ Heap.Is Heap.tlt (Heap.fn l') l'.length ∧ Turned base w w3 from ⟨v1, l3, hp3.trans (List.perm_append_singleton _ _), hb3, hi3, HT1.out.trans ht3⟩)
  clear hp3 hb3 hi3 ht3 HB1 HT1 HI
  go_wp2_with fail
  exact bodyPost_end (v := .tuple #[]) (results_none rfl _ _) rfl ⟨⟨_, rfl⟩, HF.out⟩
theorem heap_pop (v : Value) (l : List Heap.T) (n : Nat) (w : World) (base b : Nat) (h : HeapB w base b v l) (hn : l.length = n + 1) (hm : l.length ≤ 1000) (hI : Heap.Is Heap.tlt (Heap.fn l) l.length) :
    Calls Tryd.prog 76 #[hp b] w fun e w' => e = .returned (.iface 84 (.agg (turnC (l.getD 0 Heap.t0)).toArray)) ∧ ∃ v' l', l.Perm (l.getD 0 Heap.t0 :: l') ∧ HeapB w' base b v' l' ∧ Heap.Is Heap.tlt (Heap.fn l') l'.length ∧ Turned base w w' := by
  have HB := hide h
  have HD := hide (Heap.pop_new hn hI)
  have hmeth := hide (meth_val b w 75 "Len" meth_len0 h.cell)
  have HL := hide (len_calls h)
  obtain ⟨N, HN⟩ : ∃ m, Hid (l.length = m) := ⟨_, hide rfl⟩
  have HS := hide (swap_calls h (show 0 < l.length by omega) (show n < l.length by omega))
  have hmeth2 := hide (meth_val b w 134 "Swap" meth_swap0 h.cell)
  have hn1 : (N : Int) - 1 = (n : Int) := by have := HN.out; omega
  rw [HN.out] at HL
  have hnb : n < 1000 := by omega
  have HNN := hide hn
  have HM := hide hm
  clear h hn hm hI
  go_enter Tryd.func76, Tryd.ntmps76
  go_wp2_with (first
    | (show wpList _ _ _ ({ dst := some 5, op := _, type := _, pos := _, after := _, guard := _ } :: _) _ _; refine wpList_inv (by kernel_rfl) _ _ _ _ rfl b rfl 75 Tryd.call75 v hmeth.out [] (by simp) HL.out (by rintro e w' ⟨rfl, _⟩; exact ⟨_, rfl⟩) ?_; rintro u2 w2 ⟨hu2, hw2⟩; injection hu2 with hu2; subst hu2; subst hw2; clear hmeth HL)
    | (show wpList _ _ _ ({ dst := some 9, op := _, type := _, pos := _, after := _, guard := _ } :: _) _ _; refine wpList_inv (by kernel_rfl) _ _ _ _ rfl b rfl 134 Tryd.call134 v hmeth2.out [.int .i64 0, .int .i64 (n : Int)] (by simp [Act.eval]) HS.out (by rintro e w' ⟨h, _⟩; exact h) ?_; rintro u w1 ⟨hu1, hb1, ht1⟩; have HB1 := hide hb1; have HT1 := hide ht1; clear hu1 hb1 ht1 HS HB hmeth2))
  refine (heap_down v (Heap.swpL l 0 n) w1 base b n HB1.out (by rw [Heap.swpL_len, HNN.out]; omega) (by rw [Heap.swpL_len]; exact HM.out) HD.out).mono ?_
  rintro e w2 ⟨⟨u2, rfl⟩, l2, hp2, hd2, hb2, hi2, ht2⟩
  obtain ⟨q1, q2, q3⟩ := Heap.pop_done HNN.out hp2 hd2 hi2
  have HQ2 := hide q2
  have HQ3 := hide q3
  have HT2 := hide (HT1.out.trans ht2)
  have hmeth3 := hide (meth_pop b w2)
  have HPO := hide (turns_pop v l2 n w2 base b hb2 (by rw [hp2.length_eq, Heap.swpL_len, HNN.out]) (by rw [hp2.length_eq, Heap.swpL_len]; exact HM.out))
  rw [q1] at HPO
  obtain ⟨X, HX⟩ : ∃ x', Hid (Value.iface 84 (.agg (turnC (l.getD 0 Heap.t0)).toArray) = x') := ⟨_, hide rfl⟩
  rw [HX.out] at HPO
  obtain ⟨FN, HFN⟩ : ∃ p : Value → Prop, p = fun x' => x' = Value.iface 84 (.agg (turnC (l.getD 0 Heap.t0)).toArray) := ⟨_, rfl⟩
  clear hp2 hd2 hb2 hi2 ht2 q1 q2 q3 HB1 HT1 HD HFN
  go_wp2_with (first
    | (show wpList _ _ _ ({ dst := some 14, op := _, type := _, pos := _, after := _, guard := _ } :: _) _ _; refine wpList_inv (by kernel_rfl) _ _ _ _ rfl b rfl 132 Tryd.call132 _ hmeth3.out [] (by simp) HPO.out (by rintro e w' ⟨rfl, _⟩; exact ⟨_, rfl⟩) ?_; rintro u w3 ⟨hu3, v3, hb3, ht3⟩; injection hu3 with hu3; subst hu3; have HB3 := hide hb3; have HT3 := hide (HT2.out.trans ht3); clear hb3 ht3 HPO hmeth3 HT2))
  go_ret
  exact ⟨by rw [HX.out]; rfl, v3, l2.take n, HQ2.out, HB3.out, HQ3.out, HT3.out⟩
end Go.Proofs.YtgjepahhbecljaaDoor
