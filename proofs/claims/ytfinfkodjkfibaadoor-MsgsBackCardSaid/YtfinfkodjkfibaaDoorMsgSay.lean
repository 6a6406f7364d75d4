/- msgs.Say: a reply as bytes. Condition: the table of powers of ten stands; the blobs are of at most a million bytes each. -/
import Derived.Test.YtfinfkodjkfibaaDoorMsgWrite
import Derived.Test.YtfinfkodjkfibaaDoorOne
namespace Go.Proofs.YtfinfkodjkfibaaDoor
open Go Go.RowKit
set_option linter.unusedVariables false
set_option linter.unusedSimpArgs false
set_option maxRecDepth 100000
/-- What Say answers. -/
def SayRes (w w' : World) (e : Ending) (r : Option (List Int)) : Prop :=
  (∃ v b, r = some b ∧ e = .returned (.tuple #[v, .bool true]) ∧ RowB w' w.heap.size v b ∧ Below w.heap.size w w') ∨
  (r = none ∧ e = .returned (.tuple #[.slice none 0 0, .bool false]) ∧ Below w.heap.size w w')
section
variable {ops : Array Oper} {rest : List Oper} {o : Oper} {a : Act} {w : World} {Q : Exit → Act → World → Prop}
theorem wpList_box_reply (x : Operand) (ho : o.op = .box 25 x) (E : Int) (u : Value) (hx : a.eval x = .agg #[.int .i64 E, u]) (hgd : o.guard = none)
    (h : ∀ w', Blk w' w.heap.size 25 [.int .i64 E, u] → Below w.heap.size w w' → w'.heap.size = w.heap.size + 1 → wpList Tryd.prog ops Q rest (a.put o.dst (.pointer (some ⟨w.heap.size, 0, none⟩))) w') : wpList Tryd.prog ops Q (o :: rest) a w :=
  Great.wpList_boxTo hgd _ x ho _ rfl _ rfl #[.int .i64 E, u] (by rw [hx]; rfl) (h _ (Blk.new w _ _) ((Below.refl _ _).alloc (Nat.le_refl _) _) (by simp))
theorem exec_field_reply (x : Operand) (k off : Nat) (ho : o.op = .fieldAddr 25 x k) (g : Nat) (hx : a.eval x = .pointer (some ⟨g, 0, none⟩)) (hk : [0, 1][k]? = some off) : (execOp a.eval o).run Tryd.prog w = .ok (.value (.pointer (some ⟨g, off, none⟩))) w := by
  unfold execOp
  simp only [ho, hx]
  have h7 : k < 2 := by have := (List.getElem?_eq_some_iff.1 hk).1; simpa using this
  obtain rfl | rfl : k = 0 ∨ k = 1 := by omega
  all_goals (simp at hk; subst hk; go_simp)
theorem wpList_load_rp (hgd : Region.wanted o (yielded ops a.tmps) = true) (ty : TypeId) (x : Operand) (ho : o.op = .load ty x) (g off : Nat) (hx : a.eval x = .pointer (some ⟨g, off, none⟩)) (d : TypeDesc) (hu : Tryd.prog.underlying ty = some d) (hd : d.isRow = false) (v : Value) (hc : w.cell? ⟨g, off, none⟩ = some v)
    (h : wpList Tryd.prog ops Q rest (a.put o.dst v) w) : wpList Tryd.prog ops Q (o :: rest) a w :=
  wpList_go hgd fun _ hK => wp_load_one ty x ho g off hx d hu hd v hc (hK _ _ h)
end
set_option maxHeartbeats 4000000
theorem Say_any (E : Int) (u : Value) (l : List Msg.Blb) (w : World) (hv : BlbsB w w.heap.size u l) (hb : ∀ x ∈ l, Bytes x.2 ∧ x.2.length ≤ 1000000) (hin : ∀ x ∈ l, -9223372036854775808 ≤ x.1 ∧ x.1 ≤ 9223372036854775807) (hE : -9223372036854775808 ≤ E ∧ E ≤ 9223372036854775807) (ht : Tab w w.heap.size) :
    Calls Tryd.prog 10 #[.agg #[.int .i64 E, u]] w fun e w' => SayRes w w' e (Msg.sayF E l) := by
  have HV := hide hv
  have HT := hide ht
  have HBY := hide hb
  have HIN := hide hin
  have HE := hide hE
  obtain ⟨A, c, rfl, h1, h2, h3⟩ := hv.open_
  obtain ⟨n, HN⟩ : ∃ n, Hid (l.length = n) := ⟨_, hide rfl⟩
  obtain ⟨r, b, hr, hnone, hsay, hlong⟩ : ∃ (r : Option (List Int)) (b : List Int), Msg.sayF E l = r ∧ ((32 < n ∨ (E ≠ 0 ∧ 0 < n)) → r = none) ∧ (∀ (w' : World) (k : Nat) (v : Value), RowB w' k v (netsF [putF E 1] ++ netsF (Msg.blobRows l)) → RowB w' k v b) ∧ (¬ (32 < n ∨ (E ≠ 0 ∧ 0 < n)) → r = if 16384 < b.length then none else some b) := by
    refine ⟨_, netsF (Msg.sayRows E l), rfl, ?_, ?_, ?_⟩
    · intro h; rw [← HN.out] at h; unfold Msg.sayF; rw [if_pos h]
    · intro w' k v h; rw [← Msg.netsF_app] at h; exact h
    · intro h; rw [← HN.out] at h; unfold Msg.sayF; rw [if_neg h]
  have HNONE := hide hnone
  have HSAY := hide hsay
  have HLN := hide hlong
  rw [hr]
  clear hnone hsay hlong hr
  obtain ⟨g0, HG⟩ : ∃ b, Hid (w.heap.size = b) := ⟨_, hide rfl⟩
  rw [HN.out] at h1 HV ⊢
  unfold maxLen at h2
  clear hv ht hb hin h3 hE
  go_enter Tryd.func10, Tryd.ntmps10
  go_upto_region 1 with (refine wpList_box_reply _ rfl E _ rfl rfl ?_; intro w1 hb1 hw1 hs1; rw [HG.out] at hb1; try rw [HG.out]; have HG0 := hide hb1; have HB1 := hide hw1; clear hb1 hw1)
  by_cases c1 : 32 < n
  · have i1 : (32 : Int) < (n : Int) := by omega
    go_wp2_with (first | go_skip | (refine wpList_load_rp (by rfl) 23 _ rfl g0 1 rfl _ Tryd.underlying23 rfl _ (by rw [HG0.out.cell]; rfl) ?_) | (refine wpList_load_rp (by rfl) 22 _ rfl g0 0 rfl _ Tryd.underlying22 rfl _ (by rw [HG0.out.cell]; rfl) ?_))
    go_ret2
    exact .inr ⟨HNONE.out (.inl c1), rfl, HB1.out⟩
  have hn32 : ¬ (32 : Int) < (n : Int) := by omega
  have hl1000 : l.length ≤ 1000 := by have := HN.out; omega
  have hg0 : g0 ≤ w.heap.size := by have := HG.out; omega
  have HP1 := hide (show (putF E 1).length ≤ 8 from by
    have h : (putF E 1).length = wid 1 := putN_len _ _
    have := wid_le 1
    omega)
  have HRB := hide (show ∀ y ∈ [putF E 1], Bytes y from fun y hy => by obtain rfl := List.mem_singleton.1 hy; exact putF_bytes _ _)
  have HRL := hide (show ∀ y ∈ [putF E 1], y.length ≤ 1000000 from fun y hy => by obtain rfl := List.mem_singleton.1 hy; have := HP1.out; omega)
  have HL1 := hide (show (netsF [putF E 1]).length ≤ 3000063 from by
    have h1 := netsF_len _ HRL.out _ (Nat.le_refl _)
    rw [List.take_length] at h1
    have h2 : [putF E 1].length = 1 := rfl
    rw [h2] at h1
    omega)
  have HL2 := hide (show (netsF (Msg.blobRows l)).length ≤ 140737488355328 - 3000063 from by
    have hall : ∀ y ∈ Msg.blobRows l, y.length ≤ 1000000 := fun y hy => by
      have hp : ∀ z : Int, (putF z 1).length ≤ 8 := fun z => by
        have h : (putF z 1).length = wid 1 := putN_len _ _
        have := wid_le 1
        omega
      rcases List.mem_cons.1 hy with rfl | hy
      · have := hp (l.length : Int); omega
      · obtain ⟨z, hz, hy⟩ := List.mem_flatMap.1 hy
        simp only [Msg.blobR, List.mem_cons, List.not_mem_nil, or_false] at hy
        rcases hy with rfl | rfl
        · have := hp z.1; omega
        · exact (HBY.out z hz).2
    have h1 := netsF_len _ hall _ (Nat.le_refl _)
    rw [List.take_length] at h1
    have h2 : (Msg.blobRows l).length ≤ 2001 := by rw [Msg.blobRows, List.length_cons, Msg.blobR_len]; omega
    have h3 := Nat.mul_le_mul_right 1000021 h2
    omega)
  have HB0 := HB1
  rw [HG.out] at HT HV HB1
  by_cases cE : E = 0
  · have HLONG := hide (HLN.out (fun h => h.elim (fun h => absurd h c1) (fun h => h.1 cE)))
    have e0 : (E != 0) = false := by simp [cE]
    go_upto_region 3 with (first | go_skip | (refine wpList_load_rp (by rfl) 23 _ rfl g0 1 rfl _ Tryd.underlying23 rfl _ (by rw [HG0.out.cell]; rfl) ?_) | (refine wpList_load_rp (by rfl) 22 _ rfl g0 0 rfl _ Tryd.underlying22 rfl _ (by rw [HG0.out.cell]; rfl) ?_))
    clear e0 cE
    refine wp_region_held_drew (S := fun w' => Blk w' g0 25 [.int .i64 E, .slice A n c] ∧ Below g0 w w') (by kernel_rfl) ⟨HG0.out.drew, HB1.out.drew⟩ (fun hHeld => ?_)
    refine take_d 20 (i := 0) (v := .pointer (some ⟨g0, 0, none⟩)) rfl (by kernel_rfl) (by kernel_rfl) (by kernel_rfl) (by kernel_rfl) (fun _ _ _ h => h) (Or.inl ⟨by kernel_rfl, fun w' hS => exec_field_reply _ 0 0 rfl g0 rfl rfl⟩) hHeld ?_
    try simp only [Act.put, List.setIfInBounds_toArray, List.set_cons_zero, List.set_cons_succ]
    refine take_d 21 (i := 1) (v := .int .i64 E) rfl (by kernel_rfl) (by kernel_rfl) (by kernel_rfl) (by kernel_rfl) (fun _ _ _ h => h) (Or.inl ⟨by kernel_rfl, fun w' hS => exec_load_one _ _ rfl g0 0 rfl _ Tryd.underlying22 rfl _ (by rw [hS.1.cell]; rfl)⟩) hHeld ?_
    try simp only [Act.put, List.setIfInBounds_toArray, List.set_cons_zero, List.set_cons_succ]
    refine take_d 25 (i := 5) (v := .pointer (some ⟨g0, 1, none⟩)) rfl (by kernel_rfl) (by kernel_rfl) (by kernel_rfl) (by kernel_rfl) (fun _ _ _ h => h) (Or.inl ⟨by kernel_rfl, fun w' hS => exec_field_reply _ 1 1 rfl g0 rfl rfl⟩) hHeld ?_
    try simp only [Act.put, List.setIfInBounds_toArray, List.set_cons_zero, List.set_cons_succ]
    refine take_d 26 (i := 6) (v := .slice A n c) rfl (by kernel_rfl) (by kernel_rfl) (by kernel_rfl) (by kernel_rfl) (fun _ _ _ h => h) (Or.inl ⟨by kernel_rfl, fun w' hS => exec_load_one _ _ rfl g0 1 rfl _ Tryd.underlying23 rfl _ (by rw [hS.1.cell]; rfl)⟩) hHeld ?_
    try simp only [Act.put, List.setIfInBounds_toArray, List.set_cons_zero, List.set_cons_succ]
    refine wpAnyH_ready (rs := [2]) (by kernel_rfl) (by simp) (AllReadyH.cons rfl (fun K hK => ?_) AllReadyH.nil)
    rw [if_pos (by kernel_rfl)]
    try go_simp
    refine (Put_any E 1 _ HE.out (by omega)).mono ?_
    rintro e wp ⟨v1, rfl, ho1, hb1⟩
    try replace HP := hide (HP.out.keptB hb1)
    try replace HR := hide ((HR.out.below hb1 (Nat.le_refl _)).more hb1.size)
    try replace HN2 := hide (HN2.out.keptB hb1)
    try replace HO := hide (HO.out.keptB hb1)
    have HX := hide (show Blk _ g0 25 [.int .i64 E, .slice A n c] ∧ Below g0 w _ from ⟨hHeld.1.below hb1 hHeld.1.lt, hHeld.2.trans (hb1.mono (Nat.le_trans hg0 hHeld.2.size))⟩)
    have HP := hide ho1
    clear ho1 hb1
    refine hK.out _ _ HX.out (fun hHeld => ?_)
    clear HX hK K
    try simp only [Act.put, List.setIfInBounds_toArray, List.set_cons_zero, List.set_cons_succ]
    refine wpAnyH_ready (rs := [3]) (by kernel_rfl) (by simp) (AllReadyH.cons rfl (fun K hK => ?_) AllReadyH.nil)
    rw [if_pos (by kernel_rfl)]
    refine wp_rows1D 23 rfl _ rfl v1 rfl HP.out.cells1 ?_
    intro wl hbl hbb
    try replace HP := hide (HP.out.keptB hbb)
    try replace HR := hide ((HR.out.below hbb (Nat.le_refl _)).more hbb.size)
    try replace HN2 := hide (HN2.out.keptB hbb)
    try replace HO := hide (HO.out.keptB hbb)
    have HX := hide (show Blk _ g0 25 [.int .i64 E, .slice A n c] ∧ Below g0 w _ from ⟨hHeld.1.below hbb hHeld.1.lt, hHeld.2.trans (hbb.mono (Nat.le_trans hg0 hHeld.2.size))⟩)
    have HR := hide (rows_one hbl HP.out.reads)
    clear hbl hbb
    refine hK.out _ _ HX.out (fun hHeld => ?_)
    clear HX hK K
    try simp only [Act.put, List.setIfInBounds_toArray, List.set_cons_zero, List.set_cons_succ]
    refine wpAnyH_ready (rs := [4]) (by kernel_rfl) (by simp) (AllReadyH.cons rfl (fun K hK => ?_) AllReadyH.nil)
    rw [if_pos (by kernel_rfl)]
    try go_simp
    refine (Nets_any _ [putF E 1] _ HR.out HRB.out HRL.out (by simp) ((HT.out.below hHeld.2 (Nat.le_refl _)).more (Nat.le_trans hg0 hHeld.2.size))).mono ?_
    rintro e wn ⟨v24, rfl, ho2, hb2⟩
    try replace HP := hide (HP.out.keptB hb2)
    try replace HR := hide ((HR.out.below hb2 (Nat.le_refl _)).more hb2.size)
    try replace HN2 := hide (HN2.out.keptB hb2)
    try replace HO := hide (HO.out.keptB hb2)
    have HX := hide (show Blk _ g0 25 [.int .i64 E, .slice A n c] ∧ Below g0 w _ from ⟨hHeld.1.below hb2 hHeld.1.lt, hHeld.2.trans (hb2.mono (Nat.le_trans hg0 hHeld.2.size))⟩)
    have HN2 := hide (ho2.more (Nat.le_trans hg0 hHeld.2.size))
    clear ho2 hb2
    refine hK.out _ _ HX.out (fun hHeld => ?_)
    clear HX hK K
    try simp only [Act.put, List.setIfInBounds_toArray, List.set_cons_zero, List.set_cons_succ]
    refine wpAnyH_ready (rs := [7]) (by kernel_rfl) (by simp) (AllReadyH.cons rfl (fun K hK => ?_) AllReadyH.nil)
    rw [if_pos (by kernel_rfl)]
    try go_simp
    refine (wblobs_any _ l _ ((HV.out.below hHeld.2 (Nat.le_refl _)).more (Nat.le_trans hg0 hHeld.2.size)) HBY.out hl1000 HIN.out ((HT.out.below hHeld.2 (Nat.le_refl _)).more (Nat.le_trans hg0 hHeld.2.size))).mono ?_
    rintro e wn ⟨v27, rfl, ho3, hb3⟩
    try replace HP := hide (HP.out.keptB hb3)
    try replace HR := hide ((HR.out.below hb3 (Nat.le_refl _)).more hb3.size)
    try replace HN2 := hide (HN2.out.keptB hb3)
    try replace HO := hide (HO.out.keptB hb3)
    have HX := hide (show Blk _ g0 25 [.int .i64 E, .slice A n c] ∧ Below g0 w _ from ⟨hHeld.1.below hb3 hHeld.1.lt, hHeld.2.trans (hb3.mono (Nat.le_trans hg0 hHeld.2.size))⟩)
    have HO := hide (ho3.more (Nat.le_trans hg0 hHeld.2.size))
    clear ho3 hb3
    refine hK.out _ _ HX.out (fun hHeld => ?_)
    clear HX hK K
    try simp only [Act.put, List.setIfInBounds_toArray, List.set_cons_zero, List.set_cons_succ]
    refine wpAnyH_ready (rs := [8]) (by kernel_rfl) (by simp) (AllReadyH.cons rfl (fun K hK => ?_) AllReadyH.nil)
    rw [if_pos (by kernel_rfl)]
    refine wp_append_BD 28 rfl _ _ rfl g0 v24 _ rfl HN2.out _ v27 (netsF (Msg.blobRows l)) rfl HO.out.reads HO.out.bytes (by have h1 := HL1.out; have h2 := HL2.out; omega) (Nat.le_trans hg0 hHeld.2.size) ?_
    intro v28 w28 ho28 hg28
    have HX := hide (show Blk w28 g0 25 [.int .i64 E, .slice A n c] ∧ Below g0 w w28 from ⟨hHeld.1.grown hg28 (rowB_ne HN2.out hHeld.1 (by decide)), hHeld.2.grown hg28 (Nat.le_trans hg0 hHeld.2.size) (fun k hk => (HN2.out.base_ k hk).1)⟩)
    have HO2 := hide ho28
    clear ho28 hg28
    refine hK.out _ _ HX.out (fun hHeld => ?_)
    clear HX hK K
    try simp only [Act.put, List.setIfInBounds_toArray, List.set_cons_zero, List.set_cons_succ]
    refine take_d 4 (i := 9) (v := v28) rfl (by kernel_rfl) (by kernel_rfl) (by kernel_rfl) (by kernel_rfl) (fun _ _ _ h => h) (Or.inl ⟨by kernel_rfl, fun w' hS => exec_assign _ rfl _ rfl⟩) hHeld ?_
    try simp only [Act.put, List.setIfInBounds_toArray, List.set_cons_zero, List.set_cons_succ]
    refine wpAnyH_done (by kernel_rfl) ?_ _
    replace HO2 := hide (HSAY.out _ _ _ HO2.out)
    obtain ⟨A28, c28, rfl⟩ := HO2.out.shape
    obtain ⟨m, HM⟩ : ∃ m, Hid (b.length = m) := ⟨_, hide rfl⟩
    have HO3 := hide (show RowB w28 g0 (.slice A28 m c28) b from by rw [← HM.out]; exact HO2.out)
    rw [HM.out] at HLONG ⊢
    by_cases c3 : 16384 < m
    · have i3 : (16384 : Int) < (m : Int) := by omega
      go_wp2_with fail
      go_ret2
      exact .inr ⟨by rw [HLONG.out, if_pos c3], rfl, by rw [HG.out]; exact hHeld.2⟩
    · have i3 : ¬ (16384 : Int) < (m : Int) := by omega
      go_wp2_with fail
      go_ret2
      exact .inl ⟨_, b, by rw [HLONG.out, if_neg c3], rfl, by rw [HG.out]; exact HO3.out, by rw [HG.out]; exact hHeld.2⟩
  · have e0 : (E != 0) = true := by simpa using cE
    by_cases c0 : n = 0
    · have HLONG := hide (HLN.out (by omega))
      have i0 : ¬ (0 : Int) < (n : Int) := by omega
      go_upto_region 3 with (first | go_skip | (refine wpList_load_rp (by rfl) 23 _ rfl g0 1 rfl _ Tryd.underlying23 rfl _ (by rw [HG0.out.cell]; rfl) ?_) | (refine wpList_load_rp (by rfl) 22 _ rfl g0 0 rfl _ Tryd.underlying22 rfl _ (by rw [HG0.out.cell]; rfl) ?_))
      clear e0 cE c0 i0
      refine wp_region_held_drew (S := fun w' => Blk w' g0 25 [.int .i64 E, .slice A n c] ∧ Below g0 w w') (by kernel_rfl) ⟨HG0.out.drew, HB1.out.drew⟩ (fun hHeld => ?_)
      refine take_d 20 (i := 0) (v := .pointer (some ⟨g0, 0, none⟩)) rfl (by kernel_rfl) (by kernel_rfl) (by kernel_rfl) (by kernel_rfl) (fun _ _ _ h => h) (Or.inl ⟨by kernel_rfl, fun w' hS => exec_field_reply _ 0 0 rfl g0 rfl rfl⟩) hHeld ?_
      try simp only [Act.put, List.setIfInBounds_toArray, List.set_cons_zero, List.set_cons_succ]
      refine take_d 21 (i := 1) (v := .int .i64 E) rfl (by kernel_rfl) (by kernel_rfl) (by kernel_rfl) (by kernel_rfl) (fun _ _ _ h => h) (Or.inl ⟨by kernel_rfl, fun w' hS => exec_load_one _ _ rfl g0 0 rfl _ Tryd.underlying22 rfl _ (by rw [hS.1.cell]; rfl)⟩) hHeld ?_
      try simp only [Act.put, List.setIfInBounds_toArray, List.set_cons_zero, List.set_cons_succ]
      refine take_d 25 (i := 5) (v := .pointer (some ⟨g0, 1, none⟩)) rfl (by kernel_rfl) (by kernel_rfl) (by kernel_rfl) (by kernel_rfl) (fun _ _ _ h => h) (Or.inl ⟨by kernel_rfl, fun w' hS => exec_field_reply _ 1 1 rfl g0 rfl rfl⟩) hHeld ?_
      try simp only [Act.put, List.setIfInBounds_toArray, List.set_cons_zero, List.set_cons_succ]
      refine take_d 26 (i := 6) (v := .slice A n c) rfl (by kernel_rfl) (by kernel_rfl) (by kernel_rfl) (by kernel_rfl) (fun _ _ _ h => h) (Or.inl ⟨by kernel_rfl, fun w' hS => exec_load_one _ _ rfl g0 1 rfl _ Tryd.underlying23 rfl _ (by rw [hS.1.cell]; rfl)⟩) hHeld ?_
      try simp only [Act.put, List.setIfInBounds_toArray, List.set_cons_zero, List.set_cons_succ]
      refine wpAnyH_ready (rs := [2]) (by kernel_rfl) (by simp) (AllReadyH.cons rfl (fun K hK => ?_) AllReadyH.nil)
      rw [if_pos (by kernel_rfl)]
      try go_simp
      refine (Put_any E 1 _ HE.out (by omega)).mono ?_
      rintro e wp ⟨v1, rfl, ho1, hb1⟩
      try replace HP := hide (HP.out.keptB hb1)
      try replace HR := hide ((HR.out.below hb1 (Nat.le_refl _)).more hb1.size)
      try replace HN2 := hide (HN2.out.keptB hb1)
      try replace HO := hide (HO.out.keptB hb1)
      have HX := hide (show Blk _ g0 25 [.int .i64 E, .slice A n c] ∧ Below g0 w _ from ⟨hHeld.1.below hb1 hHeld.1.lt, hHeld.2.trans (hb1.mono (Nat.le_trans hg0 hHeld.2.size))⟩)
      have HP := hide ho1
      clear ho1 hb1
      refine hK.out _ _ HX.out (fun hHeld => ?_)
      clear HX hK K
      try simp only [Act.put, List.setIfInBounds_toArray, List.set_cons_zero, List.set_cons_succ]
      refine wpAnyH_ready (rs := [3]) (by kernel_rfl) (by simp) (AllReadyH.cons rfl (fun K hK => ?_) AllReadyH.nil)
      rw [if_pos (by kernel_rfl)]
      refine wp_rows1D 23 rfl _ rfl v1 rfl HP.out.cells1 ?_
      intro wl hbl hbb
      try replace HP := hide (HP.out.keptB hbb)
      try replace HR := hide ((HR.out.below hbb (Nat.le_refl _)).more hbb.size)
      try replace HN2 := hide (HN2.out.keptB hbb)
      try replace HO := hide (HO.out.keptB hbb)
      have HX := hide (show Blk _ g0 25 [.int .i64 E, .slice A n c] ∧ Below g0 w _ from ⟨hHeld.1.below hbb hHeld.1.lt, hHeld.2.trans (hbb.mono (Nat.le_trans hg0 hHeld.2.size))⟩)
      have HR := hide (rows_one hbl HP.out.reads)
      clear hbl hbb
      refine hK.out _ _ HX.out (fun hHeld => ?_)
      clear HX hK K
      try simp only [Act.put, List.setIfInBounds_toArray, List.set_cons_zero, List.set_cons_succ]
      refine wpAnyH_ready (rs := [4]) (by kernel_rfl) (by simp) (AllReadyH.cons rfl (fun K hK => ?_) AllReadyH.nil)
      rw [if_pos (by kernel_rfl)]
      try go_simp
      refine (Nets_any _ [putF E 1] _ HR.out HRB.out HRL.out (by simp) ((HT.out.below hHeld.2 (Nat.le_refl _)).more (Nat.le_trans hg0 hHeld.2.size))).mono ?_
      rintro e wn ⟨v24, rfl, ho2, hb2⟩
      try replace HP := hide (HP.out.keptB hb2)
      try replace HR := hide ((HR.out.below hb2 (Nat.le_refl _)).more hb2.size)
      try replace HN2 := hide (HN2.out.keptB hb2)
      try replace HO := hide (HO.out.keptB hb2)
      have HX := hide (show Blk _ g0 25 [.int .i64 E, .slice A n c] ∧ Below g0 w _ from ⟨hHeld.1.below hb2 hHeld.1.lt, hHeld.2.trans (hb2.mono (Nat.le_trans hg0 hHeld.2.size))⟩)
      have HN2 := hide (ho2.more (Nat.le_trans hg0 hHeld.2.size))
      clear ho2 hb2
      refine hK.out _ _ HX.out (fun hHeld => ?_)
      clear HX hK K
      try simp only [Act.put, List.setIfInBounds_toArray, List.set_cons_zero, List.set_cons_succ]
      refine wpAnyH_ready (rs := [7]) (by kernel_rfl) (by simp) (AllReadyH.cons rfl (fun K hK => ?_) AllReadyH.nil)
      rw [if_pos (by kernel_rfl)]
      try go_simp
      refine (wblobs_any _ l _ ((HV.out.below hHeld.2 (Nat.le_refl _)).more (Nat.le_trans hg0 hHeld.2.size)) HBY.out hl1000 HIN.out ((HT.out.below hHeld.2 (Nat.le_refl _)).more (Nat.le_trans hg0 hHeld.2.size))).mono ?_
      rintro e wn ⟨v27, rfl, ho3, hb3⟩
      try replace HP := hide (HP.out.keptB hb3)
      try replace HR := hide ((HR.out.below hb3 (Nat.le_refl _)).more hb3.size)
      try replace HN2 := hide (HN2.out.keptB hb3)
      try replace HO := hide (HO.out.keptB hb3)
      have HX := hide (show Blk _ g0 25 [.int .i64 E, .slice A n c] ∧ Below g0 w _ from ⟨hHeld.1.below hb3 hHeld.1.lt, hHeld.2.trans (hb3.mono (Nat.le_trans hg0 hHeld.2.size))⟩)
      have HO := hide (ho3.more (Nat.le_trans hg0 hHeld.2.size))
      clear ho3 hb3
      refine hK.out _ _ HX.out (fun hHeld => ?_)
      clear HX hK K
      try simp only [Act.put, List.setIfInBounds_toArray, List.set_cons_zero, List.set_cons_succ]
      refine wpAnyH_ready (rs := [8]) (by kernel_rfl) (by simp) (AllReadyH.cons rfl (fun K hK => ?_) AllReadyH.nil)
      rw [if_pos (by kernel_rfl)]
      refine wp_append_BD 28 rfl _ _ rfl g0 v24 _ rfl HN2.out _ v27 (netsF (Msg.blobRows l)) rfl HO.out.reads HO.out.bytes (by have h1 := HL1.out; have h2 := HL2.out; omega) (Nat.le_trans hg0 hHeld.2.size) ?_
      intro v28 w28 ho28 hg28
      have HX := hide (show Blk w28 g0 25 [.int .i64 E, .slice A n c] ∧ Below g0 w w28 from ⟨hHeld.1.grown hg28 (rowB_ne HN2.out hHeld.1 (by decide)), hHeld.2.grown hg28 (Nat.le_trans hg0 hHeld.2.size) (fun k hk => (HN2.out.base_ k hk).1)⟩)
      have HO2 := hide ho28
      clear ho28 hg28
      refine hK.out _ _ HX.out (fun hHeld => ?_)
      clear HX hK K
      try simp only [Act.put, List.setIfInBounds_toArray, List.set_cons_zero, List.set_cons_succ]
      refine take_d 4 (i := 9) (v := v28) rfl (by kernel_rfl) (by kernel_rfl) (by kernel_rfl) (by kernel_rfl) (fun _ _ _ h => h) (Or.inl ⟨by kernel_rfl, fun w' hS => exec_assign _ rfl _ rfl⟩) hHeld ?_
      try simp only [Act.put, List.setIfInBounds_toArray, List.set_cons_zero, List.set_cons_succ]
      refine wpAnyH_done (by kernel_rfl) ?_ _
      replace HO2 := hide (HSAY.out _ _ _ HO2.out)
      obtain ⟨A28, c28, rfl⟩ := HO2.out.shape
      obtain ⟨m, HM⟩ : ∃ m, Hid (b.length = m) := ⟨_, hide rfl⟩
      have HO3 := hide (show RowB w28 g0 (.slice A28 m c28) b from by rw [← HM.out]; exact HO2.out)
      rw [HM.out] at HLONG ⊢
      by_cases c3 : 16384 < m
      · have i3 : (16384 : Int) < (m : Int) := by omega
        go_wp2_with fail
        go_ret2
        exact .inr ⟨by rw [HLONG.out, if_pos c3], rfl, by rw [HG.out]; exact hHeld.2⟩
      · have i3 : ¬ (16384 : Int) < (m : Int) := by omega
        go_wp2_with fail
        go_ret2
        exact .inl ⟨_, b, by rw [HLONG.out, if_neg c3], rfl, by rw [HG.out]; exact HO3.out, by rw [HG.out]; exact hHeld.2⟩
    · have i0 : (0 : Int) < (n : Int) := by omega
      go_wp2_with (first | go_skip | (refine wpList_load_rp (by rfl) 23 _ rfl g0 1 rfl _ Tryd.underlying23 rfl _ (by rw [HG0.out.cell]; rfl) ?_) | (refine wpList_load_rp (by rfl) 22 _ rfl g0 0 rfl _ Tryd.underlying22 rfl _ (by rw [HG0.out.cell]; rfl) ?_))
      go_ret2
      exact .inr ⟨HNONE.out (.inr ⟨cE, by omega⟩), rfl, HB0.out⟩
end Go.Proofs.YtfinfkodjkfibaaDoor
