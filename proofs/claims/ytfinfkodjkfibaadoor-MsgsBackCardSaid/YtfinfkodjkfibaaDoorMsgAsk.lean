/- msgs.Ask: a request as bytes. Conditions: the table of powers of ten stands; the blobs are of at most a million bytes each. -/
import Derived.Test.YtfinfkodjkfibaaDoorMsgSay
import Derived.Test.YtfinfkodjkfibaaDoorReqAll
import Derived.Test.YtfinfkodjkfibaaDoorRows6
import Derived.Test.YtfinfkodjkfibaaDoorSym
namespace Go.Proofs.YtfinfkodjkfibaaDoor
open Go Go.RowKit
set_option linter.unusedVariables false
set_option linter.unusedSimpArgs false
set_option maxRecDepth 100000
theorem size_tst : (Tryd.prog.info? 60).map (·.size) = some 34 := by kernel_rfl
theorem zero_tst : (Tryd.prog.info? 60).map (·.zero) = some (some (.agg (tstC ⟨0, false, List.replicate 32 0⟩).toArray)) := by kernel_rfl
theorem size_b8 : (Tryd.prog.info? 5).map (·.size) = some 1 := by kernel_rfl
theorem tst_one (t : Msg.Tst) : ∀ u ∈ tstC t, u.oneCell' = true := fun u hu => by
  unfold tstC at hu
  simp only [List.mem_cons] at hu
  rcases hu with rfl | rfl | hu
  · rfl
  · rfl
  · exact u8s_one _ _ hu
theorem tst_row {w : World} {g : Nat} {t : Msg.Tst} (h : Blk w g 60 (tstC t)) (hw : t.want.length = 32) : Bs w w.heap.size (.slice (some ⟨g, 2, none⟩) 32 32) t.want := by
  unfold Bs
  rw [hw]
  exact ⟨_, 32, rfl, Nat.le_refl _, by decide, by rw [u8s_len, hw], fun _ => ⟨g, 2, rfl, h.lt, blk_range h 2 _ (fun j u hu => by
    unfold tstC
    rw [show 2 + j = j + 1 + 1 by omega, List.getElem?_cons_succ, List.getElem?_cons_succ]; exact hu)⟩⟩
theorem test_snoc (R : List (List Int)) (l : List Msg.Tst) (i : Nat) (hi : i < l.length) : netsF (R ++ (l.take i).flatMap Msg.testR) ++ netsF (Msg.testR l[i]) = netsF (R ++ (l.take (i + 1)).flatMap Msg.testR) := by
  rw [List.take_succ_eq_append_getElem hi, List.flatMap_append, ← Msg.netsF_app, List.append_assoc]
  simp
theorem test_rows {t : Msg.Tst} (hw : t.want.length = 32) (hb : Bytes t.want) : ∀ y ∈ Msg.testR t, Bytes y ∧ y.length ≤ 1000000 := fun y hy => by
  simp only [Msg.testR, List.mem_cons, List.not_mem_nil, or_false] at hy
  rcases hy with rfl | rfl | rfl
  · exact ⟨putF_bytes _ _, by have := put1_len t.num; omega⟩
  · exact ⟨bit_bytes _, by rw [bit_len]; omega⟩
  · exact ⟨hb, by omega⟩
/-- What a request's parts must be, to be written. -/
structure AskIn (q : Msg.Req) : Prop where
  keys : KeysR q
  bi : Bytes q.index
  bs : Bytes q.secret
  be : Bytes q.enable
  kind : -9223372036854775808 ≤ q.kind ∧ q.kind ≤ 9223372036854775807
  ends : -9223372036854775808 ≤ q.ends ∧ q.ends ≤ 9223372036854775807
  tests : ∀ t ∈ q.tests, Bytes t.want ∧ (-9223372036854775808 ≤ t.num ∧ t.num ≤ 9223372036854775807)
  blobs : ∀ x ∈ q.blobs, (Bytes x.2 ∧ x.2.length ≤ 1000000) ∧ (-9223372036854775808 ≤ x.1 ∧ x.1 ≤ 9223372036854775807)
set_option maxHeartbeats 8000000
theorem Ask_any (q : Msg.Req) (vt vb : Value) (w : World) (hin : AskIn q) (hts : TstsB w w.heap.size vt q.tests) (hbs : BlbsB w w.heap.size vb q.blobs) (ht : Tab w w.heap.size) :
    Calls Tryd.prog 18 #[.agg (reqCells q vt vb).toArray] w fun e w' => SayRes w w' e (Msg.askF q) := by
  have HT := hide ht
  have HIN := hide (And.intro hin.kind hin.ends)
  have HKR := hide hin.keys
  have HBV := hide hbs
  have HBY := hide hin.blobs
  have HTY := hide hin.tests
  obtain ⟨AT, cT, rfl, h1, h2, h3⟩ := hts.open_
  obtain ⟨AB, cB, rfl, h4, h5, _⟩ := hbs.open_
  have HT3 := hide h3
  have HTW := hide hts.2
  unfold maxLen at h2 h5
  obtain ⟨n, HN⟩ : ∃ n, Hid (q.tests.length = n) := ⟨_, hide rfl⟩
  obtain ⟨m, HM⟩ : ∃ n, Hid (q.blobs.length = n) := ⟨_, hide rfl⟩
  have HROWS := hide (show Msg.askRows q = [putF q.kind 1, q.index, q.secret, putF q.ends 4, q.enable, putF (n : Int) 1] ++ (q.tests.flatMap Msg.testR ++ Msg.blobRows q.blobs) by rw [← HN.out]; rfl)
  obtain ⟨r, b, hr, hnone, hsay, hlong⟩ : ∃ (r : Option (List Int)) (b : List Int), Msg.askF q = r ∧ ((32 < n ∨ 32 < m) → r = none) ∧ (∀ (w' : World) (k : Nat) (v : Value), RowB w' k v (netsF ([putF q.kind 1, q.index, q.secret, putF q.ends 4, q.enable, putF (n : Int) 1] ++ q.tests.flatMap Msg.testR) ++ netsF (Msg.blobRows q.blobs)) → RowB w' k v b) ∧ (¬ (32 < n ∨ 32 < m) → r = if 16384 < b.length then none else some b) := by
    refine ⟨_, netsF (Msg.askRows q), rfl, ?_, ?_, ?_⟩
    · intro h; rw [← HN.out, ← HM.out] at h; unfold Msg.askF; rw [if_pos h]
    · intro w' k v h; rw [HROWS.out, ← List.append_assoc, Msg.netsF_app]; exact h
    · intro h; rw [← HN.out, ← HM.out] at h; unfold Msg.askF; rw [if_neg h]
  have HNONE := hide hnone
  have HSAY := hide hsay
  have HLN := hide hlong
  rw [hr]
  have HRB := hide (show ∀ y ∈ [putF q.kind 1, q.index, q.secret, putF q.ends 4, q.enable, putF (n : Int) 1], Bytes y from fun y hy => by
    simp only [List.mem_cons, List.not_mem_nil, or_false] at hy
    rcases hy with rfl | rfl | rfl | rfl | rfl | rfl
    · exact putF_bytes _ _
    · exact hin.bi
    · exact hin.bs
    · exact putF_bytes _ _
    · exact hin.be
    · exact putF_bytes _ _)
  have HRL := hide (show ∀ y ∈ [putF q.kind 1, q.index, q.secret, putF q.ends 4, q.enable, putF (n : Int) 1], y.length ≤ 1000000 from fun y hy => by
    simp only [List.mem_cons, List.not_mem_nil, or_false] at hy
    have hi := hin.keys.i
    have hs := hin.keys.s
    have he := hin.keys.e
    rcases hy with rfl | rfl | rfl | rfl | rfl | rfl
    · have := put1_len q.kind; omega
    · omega
    · omega
    · have := put4_len q.ends; omega
    · omega
    · have := put1_len (n : Int); omega)
  clear hnone hsay hlong hr h3 hin HROWS ht
  obtain ⟨g1, HG⟩ : ∃ k, Hid (w.heap.size = k) := ⟨_, hide rfl⟩
  have hw0 : g1 ≤ w.heap.size := by have := HG.out; omega
  rw [HN.out] at h1 ⊢
  rw [HM.out] at h4 HBV ⊢
  obtain ⟨VQ, HVQ⟩ : ∃ v, Hid (Value.agg (reqCells q (.slice AT n cT) (.slice AB m cB)).toArray = v) := ⟨_, hide rfl⟩
  rw [HVQ.out]
  clear hts hbs
  go_enter Tryd.func18, Tryd.ntmps18
  go_upto_region 1 with (refine wpList_rq_box _ rfl HVQ.out.symm rfl HKR.out rfl rfl ?_; intro w1 hb1 hw1 hs1; rw [HG.out] at hb1; try rw [HG.out]; have HQ := hide hb1; have HB0 := hide hw1; clear hb1 hw1)
  by_cases c1 : 32 < n
  · have i1 : (32 : Int) < (n : Int) := by omega
    go_wp2_with (first | go_skip | (refine wpList_rq_tests _ rfl rfl rfl HQ.out ?_) | (refine wpList_rq_blobs _ rfl rfl rfl HQ.out ?_))
    go_ret2
    exact .inr ⟨HNONE.out (.inl c1), rfl, HB0.out⟩
  have i1 : ¬ (32 : Int) < (n : Int) := by omega
  by_cases c2 : 32 < m
  · have i2 : (32 : Int) < (m : Int) := by omega
    go_wp2_with (first | go_skip | (refine wpList_rq_tests _ rfl rfl rfl HQ.out ?_) | (refine wpList_rq_blobs _ rfl rfl rfl HQ.out ?_))
    go_ret2
    exact .inr ⟨HNONE.out (.inr c2), rfl, HB0.out⟩
  have i2 : ¬ (32 : Int) < (m : Int) := by omega
  have HLONG := hide (HLN.out (by omega))
  have HB := HB0
  rw [HG.out] at HT HBV HB
  go_upto_region 3 with (first | go_skip | (refine wpList_rq_tests _ rfl rfl rfl HQ.out ?_) | (refine wpList_rq_blobs _ rfl rfl rfl HQ.out ?_))
  refine wp_region_held_drew (S := fun w' => ReqB w' g1 q (.slice AT n cT) (.slice AB m cB) ∧ Below g1 w w') (by kernel_rfl) ⟨HQ.out.drew, HB.out.drew⟩ (fun hHeld => ?_)
  refine take_d 18 (i := 0) (v := .pointer (some ⟨g1, 0, none⟩)) rfl (by kernel_rfl) (by kernel_rfl) (by kernel_rfl) (by kernel_rfl) (fun _ _ _ h => h) (Or.inl ⟨by kernel_rfl, fun w' hS => exec_fieldG _ _ 0 0 rfl g1 0 rfl (by kernel_rfl) _ (by first | rfl | omega)⟩) hHeld ?_
  try simp only [Act.put, List.setIfInBounds_toArray, List.set_cons_zero, List.set_cons_succ]
  refine take_d 19 (i := 1) (v := .int .i64 (q.kind)) rfl (by kernel_rfl) (by kernel_rfl) (by kernel_rfl) (by kernel_rfl) (fun _ _ _ h => h) (Or.inl ⟨by kernel_rfl, fun w' hS => exec_load_one _ _ rfl g1 0 rfl _ Tryd.underlying3 rfl _ (by rw [hS.1.blk.cell]; exact rq_kind)⟩) hHeld ?_
  try simp only [Act.put, List.setIfInBounds_toArray, List.set_cons_zero, List.set_cons_succ]
  refine take_d 21 (i := 3) (v := .pointer (some ⟨g1, 1, none⟩)) rfl (by kernel_rfl) (by kernel_rfl) (by kernel_rfl) (by kernel_rfl) (fun _ _ _ h => h) (Or.inl ⟨by kernel_rfl, fun w' hS => exec_fieldG _ _ 1 1 rfl g1 0 rfl (by kernel_rfl) _ (by first | rfl | omega)⟩) hHeld ?_
  try simp only [Act.put, List.setIfInBounds_toArray, List.set_cons_zero, List.set_cons_succ]
  refine take_d 22 (i := 4) (v := .slice (some ⟨g1, 1, none⟩) 16 16) rfl (by kernel_rfl) (by kernel_rfl) (by kernel_rfl) (by kernel_rfl) (fun _ _ _ h => h) (Or.inl ⟨by kernel_rfl, fun w' hS => exec_slice_key _ rfl g1 1 rfl⟩) hHeld ?_
  try simp only [Act.put, List.setIfInBounds_toArray, List.set_cons_zero, List.set_cons_succ]
  refine take_d 23 (i := 5) (v := .pointer (some ⟨g1, 17, none⟩)) rfl (by kernel_rfl) (by kernel_rfl) (by kernel_rfl) (by kernel_rfl) (fun _ _ _ h => h) (Or.inl ⟨by kernel_rfl, fun w' hS => exec_fieldG _ _ 2 17 rfl g1 0 rfl (by kernel_rfl) _ (by first | rfl | omega)⟩) hHeld ?_
  try simp only [Act.put, List.setIfInBounds_toArray, List.set_cons_zero, List.set_cons_succ]
  refine take_d 24 (i := 6) (v := .slice (some ⟨g1, 17, none⟩) 16 16) rfl (by kernel_rfl) (by kernel_rfl) (by kernel_rfl) (by kernel_rfl) (fun _ _ _ h => h) (Or.inl ⟨by kernel_rfl, fun w' hS => exec_slice_key _ rfl g1 17 rfl⟩) hHeld ?_
  try simp only [Act.put, List.setIfInBounds_toArray, List.set_cons_zero, List.set_cons_succ]
  refine take_d 25 (i := 7) (v := .pointer (some ⟨g1, 33, none⟩)) rfl (by kernel_rfl) (by kernel_rfl) (by kernel_rfl) (by kernel_rfl) (fun _ _ _ h => h) (Or.inl ⟨by kernel_rfl, fun w' hS => exec_fieldG _ _ 3 33 rfl g1 0 rfl (by kernel_rfl) _ (by first | rfl | omega)⟩) hHeld ?_
  try simp only [Act.put, List.setIfInBounds_toArray, List.set_cons_zero, List.set_cons_succ]
  refine take_d 26 (i := 8) (v := .int .i64 (q.ends)) rfl (by kernel_rfl) (by kernel_rfl) (by kernel_rfl) (by kernel_rfl) (fun _ _ _ h => h) (Or.inl ⟨by kernel_rfl, fun w' hS => exec_load_one _ _ rfl g1 33 rfl _ Tryd.underlying3 rfl _ (by rw [hS.1.blk.cell]; exact rq_ends hS.1.keys)⟩) hHeld ?_
  try simp only [Act.put, List.setIfInBounds_toArray, List.set_cons_zero, List.set_cons_succ]
  refine take_d 28 (i := 10) (v := .pointer (some ⟨g1, 34, none⟩)) rfl (by kernel_rfl) (by kernel_rfl) (by kernel_rfl) (by kernel_rfl) (fun _ _ _ h => h) (Or.inl ⟨by kernel_rfl, fun w' hS => exec_fieldG _ _ 4 34 rfl g1 0 rfl (by kernel_rfl) _ (by first | rfl | omega)⟩) hHeld ?_
  try simp only [Act.put, List.setIfInBounds_toArray, List.set_cons_zero, List.set_cons_succ]
  refine take_d 29 (i := 11) (v := .slice (some ⟨g1, 34, none⟩) 16 16) rfl (by kernel_rfl) (by kernel_rfl) (by kernel_rfl) (by kernel_rfl) (fun _ _ _ h => h) (Or.inl ⟨by kernel_rfl, fun w' hS => exec_slice_key _ rfl g1 34 rfl⟩) hHeld ?_
  try simp only [Act.put, List.setIfInBounds_toArray, List.set_cons_zero, List.set_cons_succ]
  refine take_d 30 (i := 12) (v := .pointer (some ⟨g1, 50, none⟩)) rfl (by kernel_rfl) (by kernel_rfl) (by kernel_rfl) (by kernel_rfl) (fun _ _ _ h => h) (Or.inl ⟨by kernel_rfl, fun w' hS => exec_fieldG _ _ 5 50 rfl g1 0 rfl (by kernel_rfl) _ (by first | rfl | omega)⟩) hHeld ?_
  try simp only [Act.put, List.setIfInBounds_toArray, List.set_cons_zero, List.set_cons_succ]
  refine take_d 31 (i := 13) (v := .slice AT n cT) rfl (by kernel_rfl) (by kernel_rfl) (by kernel_rfl) (by kernel_rfl) (fun _ _ _ h => h) (Or.inl ⟨by kernel_rfl, fun w' hS => exec_load_one _ _ rfl g1 50 rfl _ Tryd.underlying29 rfl _ (by rw [hS.1.blk.cell]; exact rq_tests hS.1.keys)⟩) hHeld ?_
  try simp only [Act.put, List.setIfInBounds_toArray, List.set_cons_zero, List.set_cons_succ]
  refine take_d 32 (i := 14) (v := .int .i64 ((n : Int))) rfl (by kernel_rfl) (by kernel_rfl) (by kernel_rfl) (by kernel_rfl) (fun _ _ _ h => h) (Or.inl ⟨by kernel_rfl, fun w' hS => exec_len _ _ _ Tryd.underlying29 rfl _ _ _ rfl⟩) hHeld ?_
  try simp only [Act.put, List.setIfInBounds_toArray, List.set_cons_zero, List.set_cons_succ]
  refine wpAnyH_ready (rs := [2]) (by kernel_rfl) (by simp) (AllReadyH.cons rfl (fun K hK => ?_) AllReadyH.nil)
  rw [if_pos (by kernel_rfl)]
  try go_simp
  refine (Put_any q.kind 1 _ HIN.out.1 (by omega)).mono ?_
  rintro e wp ⟨v20, rfl, ho1, hb1⟩
  try replace HP0 := hide (HP0.out.keptB hb1)
  try replace HP1 := hide (HP1.out.keptB hb1)
  try replace HP2 := hide (HP2.out.keptB hb1)
  have HX := hide (show ReqB _ g1 q (.slice AT n cT) (.slice AB m cB) ∧ Below g1 w _ from ⟨hHeld.1.below hb1 hHeld.1.lt, hHeld.2.trans (hb1.mono (Nat.le_trans hw0 hHeld.2.size))⟩)
  have HP0 := hide ho1
  clear ho1 hb1
  refine hK.out _ _ HX.out (fun hHeld => ?_)
  clear HX hK K
  try simp only [Act.put, List.setIfInBounds_toArray, List.set_cons_zero, List.set_cons_succ]
  refine wpAnyH_ready (rs := [9]) (by kernel_rfl) (by simp) (AllReadyH.cons rfl (fun K hK => ?_) AllReadyH.nil)
  rw [if_pos (by kernel_rfl)]
  try go_simp
  refine (Put_any q.ends 4 _ HIN.out.2 (by omega)).mono ?_
  rintro e wp ⟨v27, rfl, ho1, hb1⟩
  try replace HP0 := hide (HP0.out.keptB hb1)
  try replace HP1 := hide (HP1.out.keptB hb1)
  try replace HP2 := hide (HP2.out.keptB hb1)
  have HX := hide (show ReqB _ g1 q (.slice AT n cT) (.slice AB m cB) ∧ Below g1 w _ from ⟨hHeld.1.below hb1 hHeld.1.lt, hHeld.2.trans (hb1.mono (Nat.le_trans hw0 hHeld.2.size))⟩)
  have HP1 := hide ho1
  clear ho1 hb1
  refine hK.out _ _ HX.out (fun hHeld => ?_)
  clear HX hK K
  try simp only [Act.put, List.setIfInBounds_toArray, List.set_cons_zero, List.set_cons_succ]
  refine wpAnyH_ready (rs := [15]) (by kernel_rfl) (by simp) (AllReadyH.cons rfl (fun K hK => ?_) AllReadyH.nil)
  rw [if_pos (by kernel_rfl)]
  try go_simp
  refine (Put_any (n : Int) 1 _ (by omega) (by omega)).mono ?_
  rintro e wp ⟨v33, rfl, ho1, hb1⟩
  try replace HP0 := hide (HP0.out.keptB hb1)
  try replace HP1 := hide (HP1.out.keptB hb1)
  try replace HP2 := hide (HP2.out.keptB hb1)
  have HX := hide (show ReqB _ g1 q (.slice AT n cT) (.slice AB m cB) ∧ Below g1 w _ from ⟨hHeld.1.below hb1 hHeld.1.lt, hHeld.2.trans (hb1.mono (Nat.le_trans hw0 hHeld.2.size))⟩)
  have HP2 := hide ho1
  clear ho1 hb1
  refine hK.out _ _ HX.out (fun hHeld => ?_)
  clear HX hK K
  try simp only [Act.put, List.setIfInBounds_toArray, List.set_cons_zero, List.set_cons_succ]
  refine wpAnyH_ready (rs := [16]) (by kernel_rfl) (by simp) (AllReadyH.cons rfl (fun K hK => ?_) AllReadyH.nil)
  rw [if_pos (by kernel_rfl)]
  refine wp_rows6D 34 rfl _ _ _ _ _ _ rfl v20 (.slice (some ⟨g1, 1, none⟩) 16 16) (.slice (some ⟨g1, 17, none⟩) 16 16) v27 (.slice (some ⟨g1, 34, none⟩) 16 16) v33 rfl rfl rfl rfl rfl rfl HP0.out.cells1 rfl rfl HP1.out.cells1 rfl HP2.out.cells1 ?_
  intro wl hbl hbb
  try replace HP0 := hide (HP0.out.keptB hbb)
  try replace HP1 := hide (HP1.out.keptB hbb)
  try replace HP2 := hide (HP2.out.keptB hbb)
  have HX := hide (show ReqB _ g1 q (.slice AT n cT) (.slice AB m cB) ∧ Below g1 w _ from ⟨hHeld.1.below hbb hHeld.1.lt, hHeld.2.trans (hbb.mono (Nat.le_trans hw0 hHeld.2.size))⟩)
  have HR := hide (rows_six hbl HP0.out.reads (ReqB.row hHeld.1.keys.i (HX.out.1.lt) HX.out.1.indexR) (ReqB.row hHeld.1.keys.s (HX.out.1.lt) HX.out.1.secretR) HP1.out.reads (ReqB.row hHeld.1.keys.e (HX.out.1.lt) HX.out.1.enableR) HP2.out.reads)
  clear hbl hbb
  refine hK.out _ _ HX.out (fun hHeld => ?_)
  clear HX hK K
  try simp only [Act.put, List.setIfInBounds_toArray, List.set_cons_zero, List.set_cons_succ]
  refine wpAnyH_ready (rs := [17]) (by kernel_rfl) (by simp) (AllReadyH.cons rfl (fun K hK => ?_) AllReadyH.nil)
  rw [if_pos (by kernel_rfl)]
  try go_simp
  refine (Nets_any _ [putF q.kind 1, q.index, q.secret, putF q.ends 4, q.enable, putF (n : Int) 1] _ HR.out HRB.out HRL.out (by simp) ((HT.out.below hHeld.2 (Nat.le_refl _)).more (Nat.le_trans hw0 hHeld.2.size))).mono ?_
  rintro e wn ⟨v35, rfl, ho2, hb2⟩
  try replace HP0 := hide (HP0.out.keptB hb2)
  try replace HP1 := hide (HP1.out.keptB hb2)
  try replace HP2 := hide (HP2.out.keptB hb2)
  have HX := hide (show ReqB _ g1 q (.slice AT n cT) (.slice AB m cB) ∧ Below g1 w _ from ⟨hHeld.1.below hb2 hHeld.1.lt, hHeld.2.trans (hb2.mono (Nat.le_trans hw0 hHeld.2.size))⟩)
  have HN2 := hide (ho2.more (Nat.le_trans hw0 hHeld.2.size))
  clear ho2 hb2
  refine hK.out _ _ HX.out (fun hHeld => ?_)
  clear HX hK K
  try simp only [Act.put, List.setIfInBounds_toArray, List.set_cons_zero, List.set_cons_succ]
  refine take_d 4 (i := 18) (v := v35) rfl (by kernel_rfl) (by kernel_rfl) (by kernel_rfl) (by kernel_rfl) (fun _ _ _ h => h) (Or.inl ⟨by kernel_rfl, fun w' hS => exec_assign _ rfl (v35) rfl⟩) hHeld ?_
  try simp only [Act.put, List.setIfInBounds_toArray, List.set_cons_zero, List.set_cons_succ]
  refine wpAnyH_done (by kernel_rfl) ?_ _
  replace HQ := hide hHeld.1
  replace HB := hide hHeld.2
  clear hHeld HB0
  go_wp2_with ((refine wpList_rq_tests _ rfl rfl rfl HQ.out ?_))
  go_loopw [4, 39] (fun v4 v39 wr => ∃ i : Nat, v39 = .int .i64 (i : Int) ∧ i ≤ n ∧ RowB wr g1 v4 (netsF ([putF q.kind 1, q.index, q.secret, putF q.ends 4, q.enable, putF (n : Int) 1] ++ (q.tests.take i).flatMap Msg.testR)) ∧ ReqB wr g1 q (.slice AT n cT) (.slice AB m cB) ∧ Below g1 w wr) (fun _ v39 _ => n - (intOf v39).toNat)
  case atStart => exact ⟨0, by go_num, by omega, by simpa using HN2.out, HQ.out, HB.out⟩
  case round =>
    obtain ⟨i, rfl, hin, ho, hq, hb⟩ := hrel
    rename World => ws
    clear HQ HB HN2
    have HO := hide ho
    have HQ := hide hq
    have HB := hide hb
    have hbs : g1 ≤ ws.heap.size := Nat.le_trans hw0 hb.size
    have hgq := hq.lt
    clear ho hq hb
    by_cases hlt : i < n
    · have hlt' : (i : Int) < (n : Int) := by omega
      have hil : i < q.tests.length := by rw [HN.out]; exact hlt
      obtain ⟨bb, oo, rfl, hbb, hcc⟩ := HT3.out (by omega)
      have hbb1 : bb < g1 := by have := HG.out; omega
      have hr := hcc i hil
      have HSN := hide (test_snoc [putF q.kind 1, q.index, q.secret, putF q.ends 4, q.enable, putF (n : Int) 1] q.tests i hil)
      have hwi := HTW.out _ (List.getElem_mem hil)
      have hti := HTY.out _ (List.getElem_mem hil)
      obtain ⟨t, HTT⟩ : ∃ t, Hid (q.tests[i] = t) := ⟨_, hide rfl⟩
      rw [HTT.out] at hr HSN hwi hti
      have HRG := hide (show ws.rangeAt bb (oo + i * 34) (tstC t) from fun j v hj => (HB.out.cell (p := ⟨bb, oo + i * 34 + j, none⟩) hbb1).trans (hr j v hj))
      have HOL := hide (show (netsF ([putF q.kind 1, q.index, q.secret, putF q.ends 4, q.enable, putF (n : Int) 1] ++ (q.tests.take i).flatMap Msg.testR)).length ≤ 102002142 from by
        have hall : ∀ y ∈ [putF q.kind 1, q.index, q.secret, putF q.ends 4, q.enable, putF (n : Int) 1] ++ (q.tests.take i).flatMap Msg.testR, y.length ≤ 1000000 := fun y hy => by
          rcases List.mem_append.1 hy with hy | hy
          · exact HRL.out y hy
          · obtain ⟨z, hz, hy⟩ := List.mem_flatMap.1 hy
            exact (test_rows (HTW.out z (List.mem_of_mem_take hz)) (HTY.out z (List.mem_of_mem_take hz)).1 y hy).2
        have h1 := netsF_le _ hall
        have h2 : ([putF q.kind 1, q.index, q.secret, putF q.ends 4, q.enable, putF (n : Int) 1] ++ (q.tests.take i).flatMap Msg.testR).length ≤ 102 := by
          rw [List.length_append, Msg.testR_len, List.length_take]
          show 6 + _ ≤ _
          omega
        have h3 := Nat.mul_le_mul_right 1000021 h2
        omega)
      have HTB := hide (fun y hy => (test_rows hwi hti.1 y hy).1)
      have HTL := hide (fun y hy => (test_rows hwi hti.1 y hy).2)
      have HTN0 := hide (show (netsF (Msg.testR t)).length ≤ 3000063 from by have h1 := netsF_le _ HTL.out; have h2 : (Msg.testR t).length = 3 := rfl; rw [h2] at h1; omega)
      have HXI := hide hti.2
      have HW32 := hide hwi
      have HSZ := hide (tst_len hwi)
      obtain ⟨X, bit, wt⟩ := t
      simp only at HXI HW32
      obtain ⟨g6, HG6⟩ : ∃ k, Hid (ws.heap.size = k) := ⟨_, hide rfl⟩
      have hg6 : g1 < g6 ∧ ws.heap.size ≤ g6 := by have := HG6.out; omega
      have HWS := hide (Below.refl ws.heap.size ws)
      clear hcc hr hwi hti HTT
      rcases bit with _ | _
      case false =>
        go_upto_region 10 with (first
          | go_skip
          | (refine wpList_rq_tests _ rfl rfl rfl HQ.out ?_) | (refine wpList_rq_blobs _ rfl rfl rfl HQ.out ?_)
          | (refine wpList_load_mid rfl 60 _ rfl bb (oo + i * 34) rfl (tstC ⟨X, false, wt⟩) _ HRG.out Tryd.underlying60 rfl (by rw [HSZ.out]; exact size_tst) ?_)
          | (refine wpList_alloc_blk rfl 60 rfl _ zero_tst ?_; intro w6 hb6 hw6 hs6; rw [HG6.out] at hb6; try rw [HG6.out]; have H6 := hide hb6; replace HQ := hide (HQ.out.below hw6 hgq); replace HWS := hide (HWS.out.trans (hw6.mono (by omega))); clear hb6 hw6)
          | (refine wpList_st_putAll _ _ _ rfl rfl rfl H6.out (tstC ⟨X, false, wt⟩) rfl (by rw [HSZ.out]; rfl) (by rw [HSZ.out]; exact size_tst) (tst_one _) ?_; intro w7 hb7 hg7 hs7; replace H6 := hide hb7; replace HQ := hide (HQ.out.grown hg7 (by intro e; injection e; omega)); replace HWS := hide (HWS.out.grown hg7 (by omega) (by intro k hk; injection hk; omega)); clear hb7 hg7)
          | (refine wpList_lit1 rfl _ rfl 0 rfl ?_; intro g7 w8 hb8 hg8 hw8; have hg7 : ws.heap.size ≤ g7 := (by have := HG6.out; omega); have hg76 : g6 < g7 := (by have := H6.out.lt; omega); have hz8 := hw8.size; have H7 := hide hb8; replace H6 := hide (H6.out.below hw8 H6.out.lt); replace HQ := hide (HQ.out.below hw8 (by omega)); replace HWS := hide (HWS.out.trans (hw8.mono (by omega))); clear hb8 hw8)
          | (refine wpList_st_get 4 _ rfl 1 rfl rfl H6.out _ Tryd.underlying4 rfl _ rfl ?_))
        replace H7 := hide (show Blk w8 g7 5 (u8s (Msg.bitL false)) from H7.out)
        have H7N := hide (show some g7 ≠ u4.ownBlock from fun e => by have := (HO.out.base_ g7 e.symm).2; omega)
        replace HO := hide (HO.out.keptB HWS.out)
        replace HB := hide (HB.out.trans (HWS.out.mono hbs))
        generalize HVV : u4 = V at HO H7N ⊢
        clear HVV HWS HRG
        have HTN := hide (show (netsF [putF X 1, Msg.bitL false, wt]).length ≤ 3000063 from HTN0.out)
        refine wp_region_held_drew (S := fun w' => ReqB w' g1 q (.slice (some ⟨bb, oo, none⟩) n cT) (.slice AB m cB) ∧ Blk w' g6 60 (tstC ⟨X, false, wt⟩) ∧ Blk w' g7 5 (u8s (Msg.bitL false)) ∧ Below g1 w w') (by kernel_rfl) ⟨HQ.out.drew, H6.out.drew, H7.out.drew, HB.out.drew⟩ (fun hHeld => ?_)
        replace HO := hide (HO.out.keptB (Below.refl _ _).drew)
        refine take_d 48 (i := 0) (v := V) rfl (by kernel_rfl) (by kernel_rfl) (by kernel_rfl) (by kernel_rfl) (fun _ _ _ h => h) (Or.inl ⟨by kernel_rfl, fun w' hS => exec_move _ rfl (V) rfl⟩) hHeld ?_
        try simp only [Act.put, List.setIfInBounds_toArray, List.set_cons_zero, List.set_cons_succ]
        refine take_d 49 (i := 1) (v := .pointer (some ⟨g6, 0, none⟩)) rfl (by kernel_rfl) (by kernel_rfl) (by kernel_rfl) (by kernel_rfl) (fun _ _ _ h => h) (Or.inl ⟨by kernel_rfl, fun w' hS => exec_fieldG _ _ 0 0 rfl g6 0 rfl (by kernel_rfl) _ (by first | rfl | omega)⟩) hHeld ?_
        try simp only [Act.put, List.setIfInBounds_toArray, List.set_cons_zero, List.set_cons_succ]
        refine take_d 50 (i := 2) (v := .int .i64 X) rfl (by kernel_rfl) (by kernel_rfl) (by kernel_rfl) (by kernel_rfl) (fun _ _ _ h => h) (Or.inl ⟨by kernel_rfl, fun w' hS => exec_load_one _ _ rfl g6 0 rfl _ Tryd.underlying3 rfl _ (by rw [hS.2.1.cell]; rfl)⟩) hHeld ?_
        try simp only [Act.put, List.setIfInBounds_toArray, List.set_cons_zero, List.set_cons_succ]
        refine take_d 52 (i := 4) (v := .slice (some ⟨g7, 0, none⟩) 1 1) rfl (by kernel_rfl) (by kernel_rfl) (by kernel_rfl) (by kernel_rfl) (fun _ _ _ h => h) (Or.inl ⟨by kernel_rfl, fun w' hS => exec_move _ rfl (.slice (some ⟨g7, 0, none⟩) 1 1) rfl⟩) hHeld ?_
        try simp only [Act.put, List.setIfInBounds_toArray, List.set_cons_zero, List.set_cons_succ]
        refine take_d 53 (i := 5) (v := .pointer (some ⟨g6, 2, none⟩)) rfl (by kernel_rfl) (by kernel_rfl) (by kernel_rfl) (by kernel_rfl) (fun _ _ _ h => h) (Or.inl ⟨by kernel_rfl, fun w' hS => exec_fieldG _ _ 2 2 rfl g6 0 rfl (by kernel_rfl) _ (by first | rfl | omega)⟩) hHeld ?_
        try simp only [Act.put, List.setIfInBounds_toArray, List.set_cons_zero, List.set_cons_succ]
        refine take_d 54 (i := 6) (v := .slice (some ⟨g6, 2, none⟩) 32 32) rfl (by kernel_rfl) (by kernel_rfl) (by kernel_rfl) (by kernel_rfl) (fun _ _ _ h => h) (Or.inl ⟨by kernel_rfl, fun w' hS => exec_slice_hash _ rfl g6 2 rfl⟩) hHeld ?_
        try simp only [Act.put, List.setIfInBounds_toArray, List.set_cons_zero, List.set_cons_succ]
        refine wpAnyH_ready (rs := [3]) (by kernel_rfl) (by simp) (AllReadyH.cons rfl (fun K hK => ?_) AllReadyH.nil)
        rw [if_pos (by kernel_rfl)]
        try go_simp
        refine (Put_any X 1 _ HXI.out (by omega)).mono ?_
        rintro e wp ⟨v51, rfl, ho1, hb1⟩
        try replace HP := hide (HP.out.keptB hb1)
        replace HO := hide (HO.out.keptB hb1)
        have HX := hide (show ReqB _ g1 q (.slice (some ⟨bb, oo, none⟩) n cT) (.slice AB m cB) ∧ Blk _ g6 60 (tstC ⟨X, false, wt⟩) ∧ Blk _ g7 5 (u8s (Msg.bitL false)) ∧ Below g1 w _ from ⟨hHeld.1.below hb1 hHeld.1.lt, hHeld.2.1.below hb1 hHeld.2.1.lt, hHeld.2.2.1.below hb1 hHeld.2.2.1.lt, hHeld.2.2.2.trans (hb1.mono (Nat.le_trans hw0 hHeld.2.2.2.size))⟩)
        have HP := hide ho1
        clear ho1 hb1
        refine hK.out _ _ HX.out (fun hHeld => ?_)
        clear HX hK K
        try simp only [Act.put, List.setIfInBounds_toArray, List.set_cons_zero, List.set_cons_succ]
        refine wpAnyH_ready (rs := [7]) (by kernel_rfl) (by simp) (AllReadyH.cons rfl (fun K hK => ?_) AllReadyH.nil)
        rw [if_pos (by kernel_rfl)]
        refine wp_rows3D 55 rfl _ _ _ rfl v51 (.slice (some ⟨g7, 0, none⟩) 1 1) (.slice (some ⟨g6, 2, none⟩) 32 32) rfl rfl rfl HP.out.cells1 rfl rfl ?_
        intro wl hbl hbb
        try replace HP := hide (HP.out.keptB hbb)
        replace HO := hide (HO.out.keptB hbb)
        have HX := hide (show ReqB _ g1 q (.slice (some ⟨bb, oo, none⟩) n cT) (.slice AB m cB) ∧ Blk _ g6 60 (tstC ⟨X, false, wt⟩) ∧ Blk _ g7 5 (u8s (Msg.bitL false)) ∧ Below g1 w _ from ⟨hHeld.1.below hbb hHeld.1.lt, hHeld.2.1.below hbb hHeld.2.1.lt, hHeld.2.2.1.below hbb hHeld.2.2.1.lt, hHeld.2.2.2.trans (hbb.mono (Nat.le_trans hw0 hHeld.2.2.2.size))⟩)
        have HR := hide (rows_three hbl HP.out.reads (HX.out.2.2.1.reads (bit_len false) (by omega)) (tst_row HX.out.2.1 HW32.out))
        clear hbl hbb
        refine hK.out _ _ HX.out (fun hHeld => ?_)
        clear HX hK K
        try simp only [Act.put, List.setIfInBounds_toArray, List.set_cons_zero, List.set_cons_succ]
        refine wpAnyH_ready (rs := [8]) (by kernel_rfl) (by simp) (AllReadyH.cons rfl (fun K hK => ?_) AllReadyH.nil)
        rw [if_pos (by kernel_rfl)]
        try go_simp
        refine (Nets_any _ [putF X 1, Msg.bitL false, wt] _ HR.out HTB.out HTL.out (by simp) ((HT.out.below hHeld.2.2.2 (Nat.le_refl _)).more (Nat.le_trans hw0 hHeld.2.2.2.size))).mono ?_
        rintro e wn ⟨v56, rfl, ho2, hb2⟩
        try replace HP := hide (HP.out.keptB hb2)
        replace HO := hide (HO.out.keptB hb2)
        have HX := hide (show ReqB _ g1 q (.slice (some ⟨bb, oo, none⟩) n cT) (.slice AB m cB) ∧ Blk _ g6 60 (tstC ⟨X, false, wt⟩) ∧ Blk _ g7 5 (u8s (Msg.bitL false)) ∧ Below g1 w _ from ⟨hHeld.1.below hb2 hHeld.1.lt, hHeld.2.1.below hb2 hHeld.2.1.lt, hHeld.2.2.1.below hb2 hHeld.2.2.1.lt, hHeld.2.2.2.trans (hb2.mono (Nat.le_trans hw0 hHeld.2.2.2.size))⟩)
        have HN2 := hide ho2
        clear ho2 hb2
        refine hK.out _ _ HX.out (fun hHeld => ?_)
        clear HX hK K
        try simp only [Act.put, List.setIfInBounds_toArray, List.set_cons_zero, List.set_cons_succ]
        refine wpAnyH_ready (rs := [9]) (by kernel_rfl) (by simp) (AllReadyH.cons rfl (fun K hK => ?_) AllReadyH.nil)
        rw [if_pos (by kernel_rfl)]
        refine wp_append_BD 57 rfl _ _ rfl g1 V _ rfl HO.out _ v56 (netsF [putF X 1, Msg.bitL false, wt]) rfl HN2.out.reads HN2.out.bytes (by have h1 := HOL.out; have h2 := HTN.out; omega) (Nat.le_trans hw0 hHeld.2.2.2.size) ?_
        intro v57 w57 ho57 hg57
        have HX := hide (show ReqB w57 g1 q (.slice (some ⟨bb, oo, none⟩) n cT) (.slice AB m cB) ∧ Blk w57 g6 60 (tstC ⟨X, false, wt⟩) ∧ Blk w57 g7 5 (u8s (Msg.bitL false)) ∧ Below g1 w w57 from ⟨hHeld.1.grown hg57 (rowB_ne HO.out hHeld.1.blk (by decide)), hHeld.2.1.grown hg57 (rowB_ne HO.out hHeld.2.1 (by decide)), hHeld.2.2.1.grown hg57 H7N.out, hHeld.2.2.2.grown hg57 (Nat.le_trans hw0 hHeld.2.2.2.size) (fun k hk => (HO.out.base_ k hk).1)⟩)
        have HO2 := hide ho57
        clear ho57 hg57
        refine hK.out _ _ HX.out (fun hHeld => ?_)
        clear HX hK K
        try simp only [Act.put, List.setIfInBounds_toArray, List.set_cons_zero, List.set_cons_succ]
        refine take_d 4 (i := 10) (v := v57) rfl (by kernel_rfl) (by kernel_rfl) (by kernel_rfl) (by kernel_rfl) (fun _ _ _ h => h) (Or.inl ⟨by kernel_rfl, fun w' hS => exec_assign _ rfl (v57) rfl⟩) hHeld ?_
        try simp only [Act.put, List.setIfInBounds_toArray, List.set_cons_zero, List.set_cons_succ]
        refine wpAnyH_done (by kernel_rfl) ?_ _
        go_wp2_with fail
        go_roundw
        case measure => simp [intOf]; omega
        case rel => exact ⟨i + 1, by go_num, by omega, by rw [← HSN.out]; exact HO2.out, hHeld.1, hHeld.2.2.2⟩
      case true =>
        go_upto_region 10 with (first
          | go_skip
          | (refine wpList_rq_tests _ rfl rfl rfl HQ.out ?_) | (refine wpList_rq_blobs _ rfl rfl rfl HQ.out ?_)
          | (refine wpList_load_mid rfl 60 _ rfl bb (oo + i * 34) rfl (tstC ⟨X, true, wt⟩) _ HRG.out Tryd.underlying60 rfl (by rw [HSZ.out]; exact size_tst) ?_)
          | (refine wpList_alloc_blk rfl 60 rfl _ zero_tst ?_; intro w6 hb6 hw6 hs6; rw [HG6.out] at hb6; try rw [HG6.out]; have H6 := hide hb6; replace HQ := hide (HQ.out.below hw6 hgq); replace HWS := hide (HWS.out.trans (hw6.mono (by omega))); clear hb6 hw6)
          | (refine wpList_st_putAll _ _ _ rfl rfl rfl H6.out (tstC ⟨X, true, wt⟩) rfl (by rw [HSZ.out]; rfl) (by rw [HSZ.out]; exact size_tst) (tst_one _) ?_; intro w7 hb7 hg7 hs7; replace H6 := hide hb7; replace HQ := hide (HQ.out.grown hg7 (by intro e; injection e; omega)); replace HWS := hide (HWS.out.grown hg7 (by omega) (by intro k hk; injection hk; omega)); clear hb7 hg7)
          | (refine wpList_lit1 rfl _ rfl 0 rfl ?_; intro g7 w8 hb8 hg8 hw8; have hg7 : ws.heap.size ≤ g7 := (by have := HG6.out; omega); have hg76 : g6 < g7 := (by have := H6.out.lt; omega); have hz8 := hw8.size; have H7 := hide hb8; replace H6 := hide (H6.out.below hw8 H6.out.lt); replace HQ := hide (HQ.out.below hw8 (by omega)); replace HWS := hide (HWS.out.trans (hw8.mono (by omega))); clear hb8 hw8)
          | (refine wpList_st_get 4 _ rfl 1 rfl rfl H6.out _ Tryd.underlying4 rfl _ rfl ?_)
          | (refine wpList_st_put 5 _ _ rfl 0 rfl rfl H7.out (by simp [u8s]) (.int .u8 1) rfl rfl size_b8 ?_; intro w9 hb9 hg9 hs9; replace H7 := hide (show Blk w9 g7 5 (u8s (Msg.bitL true)) from hb9); replace H6 := hide (H6.out.grown hg9 (by intro e; injection e; omega)); replace HQ := hide (HQ.out.grown hg9 (by intro e; injection e; omega)); replace HWS := hide (HWS.out.grown hg9 (by omega) (by intro k hk; injection hk; omega)); clear hb9 hg9))
        have H7N := hide (show some g7 ≠ u4.ownBlock from fun e => by have := (HO.out.base_ g7 e.symm).2; omega)
        replace HO := hide (HO.out.keptB HWS.out)
        replace HB := hide (HB.out.trans (HWS.out.mono hbs))
        generalize HVV : u4 = V at HO H7N ⊢
        clear HVV HWS HRG
        have HTN := hide (show (netsF [putF X 1, Msg.bitL true, wt]).length ≤ 3000063 from HTN0.out)
        refine wp_region_held_drew (S := fun w' => ReqB w' g1 q (.slice (some ⟨bb, oo, none⟩) n cT) (.slice AB m cB) ∧ Blk w' g6 60 (tstC ⟨X, true, wt⟩) ∧ Blk w' g7 5 (u8s (Msg.bitL true)) ∧ Below g1 w w') (by kernel_rfl) ⟨HQ.out.drew, H6.out.drew, H7.out.drew, HB.out.drew⟩ (fun hHeld => ?_)
        replace HO := hide (HO.out.keptB (Below.refl _ _).drew)
        refine take_d 48 (i := 0) (v := V) rfl (by kernel_rfl) (by kernel_rfl) (by kernel_rfl) (by kernel_rfl) (fun _ _ _ h => h) (Or.inl ⟨by kernel_rfl, fun w' hS => exec_move _ rfl (V) rfl⟩) hHeld ?_
        try simp only [Act.put, List.setIfInBounds_toArray, List.set_cons_zero, List.set_cons_succ]
        refine take_d 49 (i := 1) (v := .pointer (some ⟨g6, 0, none⟩)) rfl (by kernel_rfl) (by kernel_rfl) (by kernel_rfl) (by kernel_rfl) (fun _ _ _ h => h) (Or.inl ⟨by kernel_rfl, fun w' hS => exec_fieldG _ _ 0 0 rfl g6 0 rfl (by kernel_rfl) _ (by first | rfl | omega)⟩) hHeld ?_
        try simp only [Act.put, List.setIfInBounds_toArray, List.set_cons_zero, List.set_cons_succ]
        refine take_d 50 (i := 2) (v := .int .i64 X) rfl (by kernel_rfl) (by kernel_rfl) (by kernel_rfl) (by kernel_rfl) (fun _ _ _ h => h) (Or.inl ⟨by kernel_rfl, fun w' hS => exec_load_one _ _ rfl g6 0 rfl _ Tryd.underlying3 rfl _ (by rw [hS.2.1.cell]; rfl)⟩) hHeld ?_
        try simp only [Act.put, List.setIfInBounds_toArray, List.set_cons_zero, List.set_cons_succ]
        refine take_d 52 (i := 4) (v := .slice (some ⟨g7, 0, none⟩) 1 1) rfl (by kernel_rfl) (by kernel_rfl) (by kernel_rfl) (by kernel_rfl) (fun _ _ _ h => h) (Or.inl ⟨by kernel_rfl, fun w' hS => exec_move _ rfl (.slice (some ⟨g7, 0, none⟩) 1 1) rfl⟩) hHeld ?_
        try simp only [Act.put, List.setIfInBounds_toArray, List.set_cons_zero, List.set_cons_succ]
        refine take_d 53 (i := 5) (v := .pointer (some ⟨g6, 2, none⟩)) rfl (by kernel_rfl) (by kernel_rfl) (by kernel_rfl) (by kernel_rfl) (fun _ _ _ h => h) (Or.inl ⟨by kernel_rfl, fun w' hS => exec_fieldG _ _ 2 2 rfl g6 0 rfl (by kernel_rfl) _ (by first | rfl | omega)⟩) hHeld ?_
        try simp only [Act.put, List.setIfInBounds_toArray, List.set_cons_zero, List.set_cons_succ]
        refine take_d 54 (i := 6) (v := .slice (some ⟨g6, 2, none⟩) 32 32) rfl (by kernel_rfl) (by kernel_rfl) (by kernel_rfl) (by kernel_rfl) (fun _ _ _ h => h) (Or.inl ⟨by kernel_rfl, fun w' hS => exec_slice_hash _ rfl g6 2 rfl⟩) hHeld ?_
        try simp only [Act.put, List.setIfInBounds_toArray, List.set_cons_zero, List.set_cons_succ]
        refine wpAnyH_ready (rs := [3]) (by kernel_rfl) (by simp) (AllReadyH.cons rfl (fun K hK => ?_) AllReadyH.nil)
        rw [if_pos (by kernel_rfl)]
        try go_simp
        refine (Put_any X 1 _ HXI.out (by omega)).mono ?_
        rintro e wp ⟨v51, rfl, ho1, hb1⟩
        try replace HP := hide (HP.out.keptB hb1)
        replace HO := hide (HO.out.keptB hb1)
        have HX := hide (show ReqB _ g1 q (.slice (some ⟨bb, oo, none⟩) n cT) (.slice AB m cB) ∧ Blk _ g6 60 (tstC ⟨X, true, wt⟩) ∧ Blk _ g7 5 (u8s (Msg.bitL true)) ∧ Below g1 w _ from ⟨hHeld.1.below hb1 hHeld.1.lt, hHeld.2.1.below hb1 hHeld.2.1.lt, hHeld.2.2.1.below hb1 hHeld.2.2.1.lt, hHeld.2.2.2.trans (hb1.mono (Nat.le_trans hw0 hHeld.2.2.2.size))⟩)
        have HP := hide ho1
        clear ho1 hb1
        refine hK.out _ _ HX.out (fun hHeld => ?_)
        clear HX hK K
        try simp only [Act.put, List.setIfInBounds_toArray, List.set_cons_zero, List.set_cons_succ]
        refine wpAnyH_ready (rs := [7]) (by kernel_rfl) (by simp) (AllReadyH.cons rfl (fun K hK => ?_) AllReadyH.nil)
        rw [if_pos (by kernel_rfl)]
        refine wp_rows3D 55 rfl _ _ _ rfl v51 (.slice (some ⟨g7, 0, none⟩) 1 1) (.slice (some ⟨g6, 2, none⟩) 32 32) rfl rfl rfl HP.out.cells1 rfl rfl ?_
        intro wl hbl hbb
        try replace HP := hide (HP.out.keptB hbb)
        replace HO := hide (HO.out.keptB hbb)
        have HX := hide (show ReqB _ g1 q (.slice (some ⟨bb, oo, none⟩) n cT) (.slice AB m cB) ∧ Blk _ g6 60 (tstC ⟨X, true, wt⟩) ∧ Blk _ g7 5 (u8s (Msg.bitL true)) ∧ Below g1 w _ from ⟨hHeld.1.below hbb hHeld.1.lt, hHeld.2.1.below hbb hHeld.2.1.lt, hHeld.2.2.1.below hbb hHeld.2.2.1.lt, hHeld.2.2.2.trans (hbb.mono (Nat.le_trans hw0 hHeld.2.2.2.size))⟩)
        have HR := hide (rows_three hbl HP.out.reads (HX.out.2.2.1.reads (bit_len true) (by omega)) (tst_row HX.out.2.1 HW32.out))
        clear hbl hbb
        refine hK.out _ _ HX.out (fun hHeld => ?_)
        clear HX hK K
        try simp only [Act.put, List.setIfInBounds_toArray, List.set_cons_zero, List.set_cons_succ]
        refine wpAnyH_ready (rs := [8]) (by kernel_rfl) (by simp) (AllReadyH.cons rfl (fun K hK => ?_) AllReadyH.nil)
        rw [if_pos (by kernel_rfl)]
        try go_simp
        refine (Nets_any _ [putF X 1, Msg.bitL true, wt] _ HR.out HTB.out HTL.out (by simp) ((HT.out.below hHeld.2.2.2 (Nat.le_refl _)).more (Nat.le_trans hw0 hHeld.2.2.2.size))).mono ?_
        rintro e wn ⟨v56, rfl, ho2, hb2⟩
        try replace HP := hide (HP.out.keptB hb2)
        replace HO := hide (HO.out.keptB hb2)
        have HX := hide (show ReqB _ g1 q (.slice (some ⟨bb, oo, none⟩) n cT) (.slice AB m cB) ∧ Blk _ g6 60 (tstC ⟨X, true, wt⟩) ∧ Blk _ g7 5 (u8s (Msg.bitL true)) ∧ Below g1 w _ from ⟨hHeld.1.below hb2 hHeld.1.lt, hHeld.2.1.below hb2 hHeld.2.1.lt, hHeld.2.2.1.below hb2 hHeld.2.2.1.lt, hHeld.2.2.2.trans (hb2.mono (Nat.le_trans hw0 hHeld.2.2.2.size))⟩)
        have HN2 := hide ho2
        clear ho2 hb2
        refine hK.out _ _ HX.out (fun hHeld => ?_)
        clear HX hK K
        try simp only [Act.put, List.setIfInBounds_toArray, List.set_cons_zero, List.set_cons_succ]
        refine wpAnyH_ready (rs := [9]) (by kernel_rfl) (by simp) (AllReadyH.cons rfl (fun K hK => ?_) AllReadyH.nil)
        rw [if_pos (by kernel_rfl)]
        refine wp_append_BD 57 rfl _ _ rfl g1 V _ rfl HO.out _ v56 (netsF [putF X 1, Msg.bitL true, wt]) rfl HN2.out.reads HN2.out.bytes (by have h1 := HOL.out; have h2 := HTN.out; omega) (Nat.le_trans hw0 hHeld.2.2.2.size) ?_
        intro v57 w57 ho57 hg57
        have HX := hide (show ReqB w57 g1 q (.slice (some ⟨bb, oo, none⟩) n cT) (.slice AB m cB) ∧ Blk w57 g6 60 (tstC ⟨X, true, wt⟩) ∧ Blk w57 g7 5 (u8s (Msg.bitL true)) ∧ Below g1 w w57 from ⟨hHeld.1.grown hg57 (rowB_ne HO.out hHeld.1.blk (by decide)), hHeld.2.1.grown hg57 (rowB_ne HO.out hHeld.2.1 (by decide)), hHeld.2.2.1.grown hg57 H7N.out, hHeld.2.2.2.grown hg57 (Nat.le_trans hw0 hHeld.2.2.2.size) (fun k hk => (HO.out.base_ k hk).1)⟩)
        have HO2 := hide ho57
        clear ho57 hg57
        refine hK.out _ _ HX.out (fun hHeld => ?_)
        clear HX hK K
        try simp only [Act.put, List.setIfInBounds_toArray, List.set_cons_zero, List.set_cons_succ]
        refine take_d 4 (i := 10) (v := v57) rfl (by kernel_rfl) (by kernel_rfl) (by kernel_rfl) (by kernel_rfl) (fun _ _ _ h => h) (Or.inl ⟨by kernel_rfl, fun w' hS => exec_assign _ rfl (v57) rfl⟩) hHeld ?_
        try simp only [Act.put, List.setIfInBounds_toArray, List.set_cons_zero, List.set_cons_succ]
        refine wpAnyH_done (by kernel_rfl) ?_ _
        go_wp2_with fail
        go_roundw
        case measure => simp [intOf]; omega
        case rel => exact ⟨i + 1, by go_num, by omega, by rw [← HSN.out]; exact HO2.out, hHeld.1, hHeld.2.2.2⟩
    · obtain rfl : n = i := by omega
      have hlt' : ¬ (n : Int) < (n : Int) := by omega
      have HE := hide (show q.tests.take n = q.tests from List.take_of_length_le (by rw [HN.out]; omega))
      rw [HE.out] at HO
      rename World => we
      have HCB := hide (fun (w' : World) (h : Below g1 w w') => (wblobs_any (.slice AB m cB) q.blobs w' ((HBV.out.below h (Nat.le_refl _)).more (Nat.le_trans hw0 h.size)) (fun x hx => (HBY.out x hx).1) (by have := HM.out; omega) (fun x hx => (HBY.out x hx).2) ((HT.out.below h (Nat.le_refl _)).more (Nat.le_trans hw0 h.size))))
      obtain ⟨RR, HRR⟩ : ∃ x, Hid ([putF q.kind 1, q.index, q.secret, putF q.ends 4, q.enable, putF (n : Int) 1] ++ q.tests.flatMap Msg.testR = x) := ⟨_, hide rfl⟩
      have HLR := hide (show (netsF ([putF q.kind 1, q.index, q.secret, putF q.ends 4, q.enable, putF (n : Int) 1] ++ q.tests.flatMap Msg.testR)).length ≤ 102002142 from by
        have hall : ∀ y ∈ [putF q.kind 1, q.index, q.secret, putF q.ends 4, q.enable, putF (n : Int) 1] ++ q.tests.flatMap Msg.testR, y.length ≤ 1000000 := fun y hy => by
          rcases List.mem_append.1 hy with hy | hy
          · exact HRL.out y hy
          · obtain ⟨z, hz, hy⟩ := List.mem_flatMap.1 hy
            exact (test_rows (HTW.out z hz) (HTY.out z hz).1 y hy).2
        have h1 := netsF_le _ hall
        have h2 : ([putF q.kind 1, q.index, q.secret, putF q.ends 4, q.enable, putF (n : Int) 1] ++ q.tests.flatMap Msg.testR).length ≤ 102 := by
          rw [List.length_append, Msg.testR_len, HN.out]
          show 6 + _ ≤ _
          omega
        have h3 := Nat.mul_le_mul_right 1000021 h2
        omega)
      have HLB := hide (show (netsF (Msg.blobRows q.blobs)).length ≤ 100000000 from by
        have hall : ∀ y ∈ Msg.blobRows q.blobs, y.length ≤ 1000000 := fun y hy => by
          rcases List.mem_cons.1 hy with rfl | hy
          · have := put1_len (q.blobs.length : Int); omega
          · obtain ⟨z, hz, hy⟩ := List.mem_flatMap.1 hy
            simp only [Msg.blobR, List.mem_cons, List.not_mem_nil, or_false] at hy
            rcases hy with rfl | rfl
            · have := put1_len z.1; omega
            · exact (HBY.out z hz).1.2
        have h1 := netsF_le _ hall
        have h2 : (Msg.blobRows q.blobs).length ≤ 65 := by rw [Msg.blobRows, List.length_cons, Msg.blobR_len, HM.out]; omega
        have h3 := Nat.mul_le_mul_right 1000021 h2
        omega)
      have HSAY2 := hide (fun w' k v => HSAY.out w' k v)
      rw [HRR.out] at HLR HSAY2 HO
      obtain ⟨BB, HBB⟩ : ∃ x, Hid (netsF (Msg.blobRows q.blobs) = x) := ⟨_, hide rfl⟩
      rw [HBB.out] at HLB HSAY2 HCB
      go_wp2_with (first | (refine wpList_rq_tests _ rfl rfl rfl HQ.out ?_) | (refine wpList_rq_blobs _ rfl rfl rfl HQ.out ?_))
      refine (HCB.out we HB.out).mono ?_
      rintro e wf ⟨v63, rfl, ho63, hb63⟩
      have HO63 := hide ho63
      replace HO := hide (HO.out.keptB hb63)
      replace HB := hide (HB.out.trans (hb63.mono hbs))
      have hzf := hb63.size
      clear ho63 hb63 HCB HQ
      go_upto_region 13 with (refine wpList_append_B rfl _ _ rfl g1 _ _ rfl HO.out _ v63 BB rfl HO63.out.reads HO63.out.bytes (by have h1 := HLR.out; have h2 := HLB.out; omega) (by omega) ?_; intro v64 w64 ho64 hg64; have HO2 := hide (HSAY2.out _ _ _ ho64); replace HB := hide (HB.out.grown hg64 (by omega) (fun k hk => (HO.out.base_ k hk).1)); clear ho64 hg64)
      obtain ⟨A64, c64, rfl⟩ := HO2.out.shape
      obtain ⟨bl, HBLN⟩ : ∃ m, Hid (b.length = m) := ⟨_, hide rfl⟩
      have HO3 := hide (show RowB w64 g1 (.slice A64 bl c64) b from by rw [← HBLN.out]; exact HO2.out)
      rw [HBLN.out] at HLONG ⊢
      by_cases c3 : 16384 < bl
      · have i3 : (16384 : Int) < (bl : Int) := by omega
        go_wp2_with fail
        go_ret2
        exact .inr ⟨by rw [HLONG.out, if_pos c3], rfl, by rw [HG.out]; exact HB.out⟩
      · have i3 : ¬ (16384 : Int) < (bl : Int) := by omega
        go_wp2_with fail
        go_ret2
        exact .inl ⟨_, b, by rw [HLONG.out, if_neg c3], rfl, by rw [HG.out]; exact HO3.out, by rw [HG.out]; exact HB.out⟩
end Go.Proofs.YtfinfkodjkfibaaDoor
