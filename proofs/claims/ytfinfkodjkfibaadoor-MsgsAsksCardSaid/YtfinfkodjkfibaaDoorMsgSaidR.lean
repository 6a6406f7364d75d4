/- The document's Said: the reply of bytes. Condition: at most a million bytes. -/
import Derived.Test.YtfinfkodjkfibaaDoorMsgSaid
import Derived.Test.YtfinfkodjkfibaaDoorTakings
namespace Go.Proofs.YtfinfkodjkfibaaDoor
open Go Go.RowKit
set_option linter.unusedVariables false
set_option linter.unusedSimpArgs false
set_option maxRecDepth 100000
theorem built_reply1 (E : Int) : Tryd.prog.built 25 [(0, .int .i64 E)] = some [Value.int .i64 E, .slice none 0 0].toArray := by kernel_rfl
theorem size_blobs : (Tryd.prog.info? 23).map (·.size) = some 1 := by kernel_rfl
theorem RowsB.tail {w : World} {B b o L c k : Nat} {x : List Int} {rest : List (List Int)} (h : RowsB w B (.slice (some ⟨b, o, none⟩) L c) (x :: rest)) (hk : k = rest.length) (hc : 2 ≤ L) : RowsB w B (.slice (some ⟨b, o + 1, none⟩) k (c - 1)) rest := by
  subst hk
  obtain ⟨vs, ⟨A, c', e, h1, h2, h4, h3⟩, hl, hr⟩ := h
  injection e with e1 e2 e3
  subst e1 e2 e3
  simp only [List.length_cons] at h1 hl h4 h3 hr hc
  refine ⟨vs.tail, ⟨_, c - 1, rfl, by omega, by omega, by simp; omega, fun hp => ?_⟩, by simp; omega, fun i hi => ?_⟩
  · obtain ⟨b', o', e, hb, hcc⟩ := h3 (by omega)
    injection e with e
    injection e with e4 e5 e6
    subst e4 e5
    refine ⟨b, o + 1, rfl, hb, fun j u hu => ?_⟩
    rw [show o + 1 + j = o + (j + 1) by omega]
    exact hcc (j + 1) u (by rw [List.getElem?_tail] at hu; exact hu)
  · obtain ⟨u, hu, hx⟩ := hr (i + 1) (by omega)
    exact ⟨u, by rw [List.getElem?_tail]; exact hu, by simpa using hx⟩
theorem netsF_count : ∀ (l : List (List Int)), l.length ≤ (netsF l).length
  | [] => Nat.zero_le _
  | x :: l => by
    have h1 := netsF_count l
    have h2 := netF_pos x
    rw [Msg.netsF_cons, List.length_append, List.length_cons]
    omega
/-- The document's Said in letters. -/
theorem Msg.saidR_none {b : List Int} (h : Msg.rowsF b = none) : Msg.saidR b = none := by unfold Msg.saidR; rw [h]
theorem Msg.saidR_off {b : List Int} {l : List (List Int)} (h : Msg.rowsF b = some l) (h' : ¬ (b.length ≤ 16384 ∧ 2 ≤ l.length ∧ (l.getD 0 []).length = 1 ∧ (l.getD 0 []).getD 0 0 ≤ 17)) : Msg.saidR b = none := by unfold Msg.saidR; rw [h]; simp only; rw [if_neg h']
theorem Msg.saidR_go {b : List Int} {x : List Int} {rest : List (List Int)} (h : Msg.rowsF b = some (x :: rest)) (h1 : b.length ≤ 16384) (h2 : 1 ≤ rest.length) (h3 : x.length = 1) (h4 : x.getD 0 0 ≤ 17) :
    Msg.saidR b = match Msg.takeB rest with
      | none => none
      | some bl => if x.getD 0 0 ≠ 0 ∧ bl ≠ [] then none else some (x.getD 0 0, bl) := by
  unfold Msg.saidR; rw [h]; simp only; rw [if_pos ⟨h1, by simp; omega, h3, h4⟩]; rfl
set_option maxHeartbeats 4000000
theorem Said_ref (v : Value) (b : List Int) (w : World) (hv : Bs w w.heap.size v b) (hb : Bytes b) (hl : b.length ≤ 1000000) :
    Calls Tryd.prog 14 #[v] w fun e w' => SaidRes w w' e (Msg.saidR b) := by
  have HV := hide hv
  have HBY := hide hb
  obtain ⟨A, c, rfl, h1, h2, _⟩ := hv.open_
  have HRW := hide (fun (w' : World) (h : Below w.heap.size w w') => rows_ref (.slice A b.length c) b w' ((hv.below h (Nat.le_refl _)).more h.size) hb hl)
  have HRB := hide (fun (l : List (List Int)) (h : Msg.rowsF b = some l) => show ∀ x ∈ l, Bytes x ∧ x.length ≤ 16384 from by
    obtain ⟨e1, e2⟩ := (Msg.rows_iff b l).1 h
    exact fun x hx => ⟨Msg.rows_bytes (by rw [← e1]; exact hb) x hx, e2 x hx⟩)
  have HRL := hide (fun (l : List (List Int)) (h : Msg.rowsF b = some l) => show l.length ≤ b.length from by
    obtain ⟨e1, e2⟩ := (Msg.rows_iff b l).1 h
    rw [e1]; exact netsF_count l)
  obtain ⟨r, HRR⟩ : ∃ r, Hid (Msg.saidR b = r) := ⟨_, hide rfl⟩
  rw [HRR.out]
  obtain ⟨n, HN⟩ : ∃ n, Hid (b.length = n) := ⟨_, hide rfl⟩
  rw [HN.out] at h1 hl HRW ⊢
  unfold maxLen at h2
  clear hv hb
  obtain ⟨g0, HG⟩ : ∃ k, Hid (w.heap.size = k) := ⟨_, hide rfl⟩
  go_enter Tryd.func14, Tryd.ntmps14
  go_wp2_with (refine wpList_alloc_blk rfl 25 rfl _ zero_reply ?_; intro w1 hb1 hw1 hs1; rw [HG.out] at hb1 hw1 hs1; try rw [HG.out]; have HR := hide hb1; have HW := hide hw1; clear hb1 hw1)
  refine (HRW.out w1 (HW.out.mono (by have := HG.out; omega))).mono ?_
  rintro e w2 (⟨vr, rows, hrw, rfl, hrr, hb2⟩ | ⟨hrw, rfl, hb2⟩)
  case inr =>
    have hz2 := hb2.size
    have HNR := hide (show r = none by rw [← HRR.out]; exact Msg.saidR_none hrw)
    replace HR := hide (HR.out.below hb2 (by omega))
    replace HW := hide (HW.out.trans (hb2.mono (by omega)))
    clear hrw hb2 HRW
    go_wp2_with (first
      | go_skip
      | (refine wpList_st_build 25 _ rfl rfl [Value.int .i64 0, .slice none 0 0] built_reply0 ?_)
      | (refine wpList_st_putAll _ _ _ rfl rfl rfl HR.out [Value.int .i64 0, .slice none 0 0] rfl rfl size_reply (reply_one 0 none 0 0) ?_; intro w9 hb9 hg9 hs9; replace HR := hide hb9; replace HW := hide (HW.out.grown hg9 (by omega) (by intro k hk; injection hk; omega)); clear hb9 hg9))
    refine bodyPost_ret (results_st rfl _ _ g0 _ _ rfl HR.out _ Tryd.underlying25 rfl size_reply _ rfl) rfl ?_
    exact .inr ⟨HNR.out, rfl, by rw [HG.out]; exact HW.out⟩
  have hz2 := hb2.size
  have HRWS := hide hrw
  replace HR := hide (HR.out.below hb2 (by omega))
  replace HW := hide (HW.out.trans (hb2.mono (by omega)))
  have HL := hide (HRL.out rows hrw)
  have HXX := hide (HRB.out rows hrw)
  have HRO := hide hrr
  obtain ⟨Ar, cr, rfl, g1, g2, g3⟩ := hrr.open_
  unfold maxLen at g2
  obtain ⟨L, HLL⟩ : ∃ n, Hid (rows.length = n) := ⟨_, hide rfl⟩
  clear hrw hb2 HRW hrr
  by_cases hbig : 16384 < n
  · have HNR := hide (show r = none by rw [← HRR.out]; exact Msg.saidR_off HRWS.out (fun h => by have := h.1; rw [HN.out] at this; omega))
    have i1 : (16384 : Int) < (n : Int) := by omega
    clear g3
    go_wp2_with (first
      | go_skip
      | (refine wpList_st_build 25 _ rfl rfl [Value.int .i64 0, .slice none 0 0] built_reply0 ?_)
      | (refine wpList_st_putAll _ _ _ rfl rfl rfl HR.out [Value.int .i64 0, .slice none 0 0] rfl rfl size_reply (reply_one 0 none 0 0) ?_; intro w9 hb9 hg9 hs9; replace HR := hide hb9; replace HW := hide (HW.out.grown hg9 (by omega) (by intro k hk; injection hk; omega)); clear hb9 hg9))
    refine bodyPost_ret (results_st rfl _ _ g0 _ _ rfl HR.out _ Tryd.underlying25 rfl size_reply _ rfl) rfl ?_
    exact .inr ⟨HNR.out, rfl, by rw [HG.out]; exact HW.out⟩
  have i1 : ¬ (16384 : Int) < (n : Int) := by omega
  by_cases hsm : rows.length < 2
  · have HNR := hide (show r = none by rw [← HRR.out]; exact Msg.saidR_off HRWS.out (fun h => by have := h.2.1; omega))
    have i2 : (L : Int) < 2 := by have := HLL.out; omega
    rw [HLL.out] at g1 ⊢
    clear g3 hsm
    go_wp2_with (first
      | go_skip
      | (refine wpList_st_build 25 _ rfl rfl [Value.int .i64 0, .slice none 0 0] built_reply0 ?_)
      | (refine wpList_st_putAll _ _ _ rfl rfl rfl HR.out [Value.int .i64 0, .slice none 0 0] rfl rfl size_reply (reply_one 0 none 0 0) ?_; intro w9 hb9 hg9 hs9; replace HR := hide hb9; replace HW := hide (HW.out.grown hg9 (by omega) (by intro k hk; injection hk; omega)); clear hb9 hg9))
    refine bodyPost_ret (results_st rfl _ _ g0 _ _ rfl HR.out _ Tryd.underlying25 rfl size_reply _ rfl) rfl ?_
    exact .inr ⟨HNR.out, rfl, by rw [HG.out]; exact HW.out⟩
  rcases rows with _ | ⟨x0, rest⟩
  · simp at hsm
  obtain ⟨bb, oo, rfl, hbb, hcc⟩ := g3 (by simp)
  obtain ⟨u0, hc0, hu0⟩ := hcc 0 (by simp)
  simp only [List.getElem_cons_zero] at hc0 hu0
  rw [Nat.add_zero] at hc0
  obtain ⟨Au, cu, rfl, _, _, _⟩ := hu0.open_
  have i2 : ¬ (L : Int) < 2 := by have := HLL.out; omega
  have i3 : (0 : Int) < (L : Int) := by omega
  have HB0 := hide (HXX.out x0 List.mem_cons_self)
  have hLr : rest.length + 1 ≤ L ∧ L ≤ rest.length + 1 := by have := HLL.out; rw [List.length_cons] at this; omega
  have HLR := hide (show rest.length ≤ 1000000 by have := HL.out; rw [List.length_cons, HN.out] at this; omega)
  rw [HLL.out] at g1 HRO ⊢
  obtain ⟨n0, HN0⟩ : ∃ n, Hid (x0.length = n) := ⟨_, hide rfl⟩
  rw [HN0.out] at hc0 hu0
  clear hcc hsm HL
  by_cases hx1 : x0.length = 1
  case neg =>
    have HNR := hide (show r = none by rw [← HRR.out]; exact Msg.saidR_off HRWS.out (fun h => hx1 h.2.2.1))
    have hn1 : ((n0 : Int) != 1) = true := by have := HN0.out; simp; omega
    clear hx1
    go_wp2_with (first
      | go_skip
      | (refine wpList_st_build 25 _ rfl rfl [Value.int .i64 0, .slice none 0 0] built_reply0 ?_)
      | (refine wpList_st_putAll _ _ _ rfl rfl rfl HR.out [Value.int .i64 0, .slice none 0 0] rfl rfl size_reply (reply_one 0 none 0 0) ?_; intro w9 hb9 hg9 hs9; replace HR := hide hb9; replace HW := hide (HW.out.grown hg9 (by omega) (by intro k hk; injection hk; omega)); clear hb9 hg9))
    refine bodyPost_ret (results_st rfl _ _ g0 _ _ rfl HR.out _ Tryd.underlying25 rfl size_reply _ rfl) rfl ?_
    exact .inr ⟨HNR.out, rfl, by rw [HG.out]; exact HW.out⟩
  obtain ⟨b0, o0, rfl, hb0, hn01, hcx, hX0, hX1⟩ := bs_one (x := x0) hu0 hx1 HB0.out.1
  obtain ⟨M, HM⟩ : ∃ M, Hid (x0.getD 0 0 = M) := ⟨_, hide rfl⟩
  rw [HM.out] at hcx hX0 hX1
  have HX1 := hide hx1
  subst hn01
  clear hx1
  by_cases h17 : 17 < M
  · have HNR := hide (show r = none by rw [← HRR.out]; exact Msg.saidR_off HRWS.out (fun h => by have h4 := h.2.2.2; rw [List.getD_cons_zero, HM.out] at h4; omega))
    go_wp2_with (first
      | go_skip
      | (refine wpList_st_build 25 _ rfl rfl [Value.int .i64 0, .slice none 0 0] built_reply0 ?_)
      | (refine wpList_st_putAll _ _ _ rfl rfl rfl HR.out [Value.int .i64 0, .slice none 0 0] rfl rfl size_reply (reply_one 0 none 0 0) ?_; intro w9 hb9 hg9 hs9; replace HR := hide hb9; replace HW := hide (HW.out.grown hg9 (by omega) (by intro k hk; injection hk; omega)); clear hb9 hg9))
    refine bodyPost_ret (results_st rfl _ _ g0 _ _ rfl HR.out _ Tryd.underlying25 rfl size_reply _ rfl) rfl ?_
    exact .inr ⟨HNR.out, rfl, by rw [HG.out]; exact HW.out⟩
  have h17' : ¬ 17 < M := h17
  have HGO := hide (show r = match Msg.takeB rest with
      | none => none
      | some bl => if M ≠ 0 ∧ bl ≠ [] then none else some (M, bl) by rw [← HRR.out, Msg.saidR_go HRWS.out (by rw [HN.out]; omega) (by omega) HX1.out (by rw [HM.out]; omega), HM.out])
  have HTL := hide (fun k hk => HRO.out.tail (k := k) hk (by omega))
  have HTK := hide (fun (w' : World) (k : Nat) (hk : k = rest.length) (h : Below w2.heap.size w2 w') => takeBlobs_ref (.slice (some ⟨bb, oo + 1, none⟩) k (cr - 1)) rest w' (((HRO.out.tail hk (by omega)).below h (Nat.le_refl _)).more h.size) (fun x hx => HXX.out x (List.mem_cons_of_mem _ hx)) HLR.out)
  obtain ⟨g5, HG5⟩ : ∃ k, Hid (w2.heap.size = k) := ⟨_, hide rfl⟩
  have hg5 : g0 + 1 ≤ g5 := by have := HG5.out; omega
  have HQ := hide (Below.refl w2.heap.size w2)
  go_wp2_with (first
    | go_skip
    | (refine wpList_st_build 25 _ rfl rfl [Value.int .i64 M, .slice none 0 0] (built_reply1 M) ?_)
    | (refine wpList_alloc_blk rfl 25 rfl _ zero_reply ?_; intro w5 hb5 hw5 hs5; rw [HG5.out] at hb5 hw5 hs5; try rw [HG5.out]; have HS := hide hb5; replace HR := hide (HR.out.below hw5 (by omega)); replace HQ := hide (HQ.out.trans (hw5.mono (by have := HG5.out; omega))); replace HW := hide (HW.out.trans (hw5.mono (by omega))); clear hb5 hw5)
    | (refine wpList_st_putAll _ _ _ rfl rfl rfl HS.out [Value.int .i64 M, .slice none 0 0] rfl rfl size_reply (reply_one M none 0 0) ?_; intro w6 hb6 hg6 hs6; replace HS := hide hb6; replace HQ := hide (HQ.out.grown hg6 (by have := HG5.out; omega) (by intro k hk; injection hk; have := HG5.out; omega)); replace HR := hide (HR.out.grown hg6 (by intro e; injection e; omega)); replace HW := hide (HW.out.grown hg6 (by omega) (by intro k hk; injection hk; omega)); clear hb6 hg6))
  have hz6 := HQ.out.size
  have HT6 := hide (HTK.out w6 (L - 1) (by omega) HQ.out)
  clear HTK HTL
  refine HT6.out.mono ?_
  rintro e w7 (⟨v7, l7, ht7, rfl, ho7, hb7⟩ | ⟨ht7, rfl, hb7⟩)
  case inr =>
    have hz7 := hb7.size
    have HNR := hide (show r = none by rw [HGO.out, ht7])
    replace HR := hide (HR.out.below hb7 (by omega))
    replace HS := hide (HS.out.below hb7 (by omega))
    replace HW := hide (HW.out.trans (hb7.mono (by omega)))
    clear HT6 hb7 ht7 HGO
    go_wp2_with (first
      | go_skip
      | (refine wpList_st_put 23 _ _ rfl 1 rfl rfl HS.out (by simp) (.slice none 0 0) rfl rfl size_blobs ?_; intro w8 hb8 hg8 hs8; replace HS := hide hb8; replace HR := hide (HR.out.grown hg8 (by intro e; injection e; omega)); replace HW := hide (HW.out.grown hg8 (by omega) (by intro k hk; injection hk; omega)); clear hb8 hg8)
      | (refine wpList_st_build 25 _ rfl rfl [Value.int .i64 0, .slice none 0 0] built_reply0 ?_)
      | (refine wpList_st_putAll _ _ _ rfl rfl rfl HR.out [Value.int .i64 0, .slice none 0 0] rfl rfl size_reply (reply_one 0 none 0 0) ?_; intro w9 hb9 hg9 hs9; replace HR := hide hb9; replace HW := hide (HW.out.grown hg9 (by omega) (by intro k hk; injection hk; omega)); clear hb9 hg9))
    refine bodyPost_ret (results_st rfl _ _ g0 _ _ rfl HR.out _ Tryd.underlying25 rfl size_reply _ rfl) rfl ?_
    exact .inr ⟨HNR.out, rfl, by rw [HG.out]; exact HW.out⟩
  have hz7 := hb7.size
  replace HR := hide (HR.out.below hb7 (by omega))
  replace HS := hide (HS.out.below hb7 (by omega))
  replace HW := hide (HW.out.trans (hb7.mono (by omega)))
  have HO := hide ho7
  obtain ⟨A7, c7, rfl⟩ := ho7.shape
  obtain ⟨m, HMM⟩ : ∃ m, Hid (l7.length = m) := ⟨_, hide rfl⟩
  have HGG := hide (show r = if M ≠ 0 ∧ l7 ≠ [] then none else some (M, l7) by rw [HGO.out, ht7])
  rw [HMM.out] at HO ⊢
  have hgb : g0 < w6.heap.size ∧ g5 < w6.heap.size := by have := HG5.out; omega
  clear HT6 hb7 ht7 HGO ho7
  obtain ⟨q, HQM⟩ : ∃ q, Hid ((M != 0) = q) := ⟨_, hide rfl⟩
  by_cases hno : M ≠ 0 ∧ l7 ≠ []
  · have HNR := hide (show r = none by rw [HGG.out, if_pos hno])
    have e0 : (M != 0) = true := by simpa using hno.1
    have i8 : (0 : Int) < (m : Int) := by have := HMM.out; have := List.length_pos_iff.2 hno.2; omega
    clear hno
    go_wp2_with (first
  | go_skip
  | (refine wpList_st_get 22 _ rfl 0 rfl rfl HS.out _ Tryd.underlying22 rfl _ rfl ?_)
  | (refine wpList_st_get 23 _ rfl 1 rfl rfl HS.out _ Tryd.underlying23 rfl _ rfl ?_)
  | (refine wpList_st_put 23 _ _ rfl 1 rfl rfl HS.out (by simp) (.slice A7 m c7) rfl rfl size_blobs ?_; intro w8 hb8 hg8 hs8; replace HS := hide hb8; replace HR := hide (HR.out.grown hg8 (by intro e; injection e; omega)); replace HW := hide (HW.out.grown hg8 (by omega) (by intro k hk; injection hk; omega)); clear hb8 hg8)
  | (refine wpList_st_build 25 _ rfl rfl [Value.int .i64 0, .slice none 0 0] built_reply0 ?_)
  | (refine wpList_st_putAll _ _ _ rfl rfl rfl HR.out [Value.int .i64 0, .slice none 0 0] rfl rfl size_reply (reply_one 0 none 0 0) ?_; intro w9 hb9 hg9 hs9; replace HR := hide hb9; replace HW := hide (HW.out.grown hg9 (by omega) (by intro k hk; injection hk; omega)); clear hb9 hg9))
    refine bodyPost_ret (results_st rfl _ _ g0 _ _ rfl HR.out _ Tryd.underlying25 rfl size_reply _ rfl) rfl ?_
    exact .inr ⟨HNR.out, rfl, by rw [HG.out]; exact HW.out⟩
  have HYR := hide (show r = some (M, l7) by rw [HGG.out, if_neg hno])
  by_cases cM : M = 0
  · have e0 : (M != 0) = false := by simpa using cM
    clear hno cM HGG
    go_wp2_with (first
      | go_skip
      | (refine wpList_st_get 22 _ rfl 0 rfl rfl HS.out _ Tryd.underlying22 rfl _ rfl ?_)
      | (refine wpList_st_get 23 _ rfl 1 rfl rfl HS.out _ Tryd.underlying23 rfl _ rfl ?_)
      | (refine wpList_st_put 23 _ _ rfl 1 rfl rfl HS.out (by simp) (.slice A7 m c7) rfl rfl size_blobs ?_; intro w8 hb8 hg8 hs8; replace HO := hide (HO.out.past HS.out int_no slice_no hg8 hgb.2 (by omega)); replace HS := hide (show Blk w8 g5 _ [.int .i64 M, .slice A7 m c7] from hb8); replace HR := hide (HR.out.grown hg8 (by intro e; injection e; omega)); replace HW := hide (HW.out.grown hg8 (by omega) (by intro k hk; injection hk; omega)); clear hb8 hg8)
      | (refine wpList_st_all 25 _ rfl rfl rfl HS.out _ Tryd.underlying25 rfl size_reply ?_)
      | (refine wpList_st_putAll _ _ _ rfl rfl rfl HR.out [Value.int .i64 M, .slice A7 m c7] rfl rfl size_reply (reply_one M A7 m c7) ?_; intro w9 hb9 hg9 hs9; replace HO := hide (HO.out.past HR.out int_no slice_no hg9 hgb.1 (by omega)); replace HR := hide hb9; replace HW := hide (HW.out.grown hg9 (by omega) (by intro k hk; injection hk; omega)); clear hb9 hg9))
    refine bodyPost_ret (results_st rfl _ _ g0 _ _ rfl HR.out _ Tryd.underlying25 rfl size_reply _ rfl) rfl ?_
    exact .inl ⟨_, M, l7, HYR.out, rfl, HO.out.reads (by omega), by rw [HG.out]; exact HW.out⟩
  · have e0 : (M != 0) = true := by simpa using cM
    have i8 : ¬ (0 : Int) < (m : Int) := by have hm := HMM.out; have h0 : l7.length = 0 := List.length_eq_zero_iff.2 (Classical.byContradiction fun h => hno ⟨cM, h⟩); omega
    clear hno cM HGG
    go_wp2_with (first
      | go_skip
      | (refine wpList_st_get 22 _ rfl 0 rfl rfl HS.out _ Tryd.underlying22 rfl _ rfl ?_)
      | (refine wpList_st_get 23 _ rfl 1 rfl rfl HS.out _ Tryd.underlying23 rfl _ rfl ?_)
      | (refine wpList_st_put 23 _ _ rfl 1 rfl rfl HS.out (by simp) (.slice A7 m c7) rfl rfl size_blobs ?_; intro w8 hb8 hg8 hs8; replace HO := hide (HO.out.past HS.out int_no slice_no hg8 hgb.2 (by omega)); replace HS := hide (show Blk w8 g5 _ [.int .i64 M, .slice A7 m c7] from hb8); replace HR := hide (HR.out.grown hg8 (by intro e; injection e; omega)); replace HW := hide (HW.out.grown hg8 (by omega) (by intro k hk; injection hk; omega)); clear hb8 hg8)
      | (refine wpList_st_all 25 _ rfl rfl rfl HS.out _ Tryd.underlying25 rfl size_reply ?_)
      | (refine wpList_st_putAll _ _ _ rfl rfl rfl HR.out [Value.int .i64 M, .slice A7 m c7] rfl rfl size_reply (reply_one M A7 m c7) ?_; intro w9 hb9 hg9 hs9; replace HO := hide (HO.out.past HR.out int_no slice_no hg9 hgb.1 (by omega)); replace HR := hide hb9; replace HW := hide (HW.out.grown hg9 (by omega) (by intro k hk; injection hk; omega)); clear hb9 hg9))
    refine bodyPost_ret (results_st rfl _ _ g0 _ _ rfl HR.out _ Tryd.underlying25 rfl size_reply _ rfl) rfl ?_
    exact .inl ⟨_, M, l7, HYR.out, rfl, HO.out.reads (by omega), by rw [HG.out]; exact HW.out⟩
end Go.Proofs.YtfinfkodjkfibaaDoor
