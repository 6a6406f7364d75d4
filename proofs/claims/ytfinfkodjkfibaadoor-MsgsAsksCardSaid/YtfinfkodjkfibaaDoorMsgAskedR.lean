/- The document's Asked: the request of bytes. Condition: at most a million bytes. -/
import Derived.Test.YtfinfkodjkfibaaDoorAskDefs
import Derived.Test.YtfinfkodjkfibaaDoorMsgSaidR
import Derived.Test.YtfinfkodjkfibaaDoorTstAll
import Derived.Test.YtfinfkodjkfibaaDoorSliceFrom
import Derived.Test.YtfinfkodjkfibaaDoorTakings
import Derived.Test.YtfinfkodjkfibaaDoorReqAll
import Derived.Test.YtfinfkodjkfibaaDoorGet
import Derived.Deep.DeepCutAuto
import Derived.Deep.CutBlock
namespace Go.Proofs.YtfinfkodjkfibaaDoor
open Go Go.RowKit
set_option linter.unusedVariables false
set_option linter.unusedSimpArgs false
set_option maxRecDepth 100000
theorem built_tst2 (n : Int) (q : Bool) : Tryd.prog.built 60 [(0, .int .i64 n), (1, .bool q)] = some (tstC ⟨n, q, List.replicate 32 0⟩).toArray := by kernel_rfl
theorem fill_tst (a : Value) (q : Value) (x : List Int) (i : Nat) (hx : x.length = 32) (hi : i < 32) (y : Int) (hy : x.getD i 0 = y) : (a :: q :: u8s (x.take i ++ List.replicate (32 - i) 0)).set (2 + i) (.int .u8 y) = a :: q :: u8s (x.take (i + 1) ++ List.replicate (32 - (i + 1)) 0) := by
  rw [Nat.add_comm, List.set_cons_succ, List.set_cons_succ, fill_at x 32 i hx hi y hy]
theorem bs_n {w : World} {B n c : Nat} {A : Option Addr} {x : List Int} (h : Bs w B (.slice A n c) x) (hx : x.length = n) (h0 : 0 < n) : ∃ b o, A = some ⟨b, o, none⟩ ∧ b < B ∧ ∀ j, j < n → w.cell? ⟨b, o + j, none⟩ = some (.int .u8 (x.getD j 0)) := by
  obtain ⟨A', c', e, _, _, h4⟩ := h.open_
  injection e with e1 e2 e3
  subst e1 e2 e3
  obtain ⟨b, o, e, hb, hc⟩ := h4 h0
  exact ⟨b, o, e, hb, fun j hj => hc j _ hj rfl⟩
set_option maxHeartbeats 16000000
theorem Asked_ref (v : Value) (b : List Int) (w : World) (hv : Bs w w.heap.size v b) (hb : Bytes b) (hl : b.length ≤ 1000000) :
    Calls Tryd.prog 24 #[v] w fun e w' => AskedRes w w' e (Msg.askedR b) := by
  have HV := hide hv
  have HBY := hide hb
  obtain ⟨A, c, rfl, h1, h2, _⟩ := hv.open_
  have HRW := hide (fun (w' : World) (h : Below w.heap.size w w') => rows_ref (.slice A b.length c) b w' ((hv.below h (Nat.le_refl _)).more h.size) hb hl)
  have HRB := hide (fun (l : List (List Int)) (h : Msg.rowsF b = some l) => show ∀ x ∈ l, Bytes x ∧ x.length ≤ 16384 from by
    obtain ⟨e1, e2⟩ := (Msg.rows_iff b l).1 h
    exact fun x hx => ⟨Msg.rows_bytes (by rw [← e1]; exact hb) x hx, e2 x hx⟩)
  have HRL := hide (fun (l : List (List Int)) (h : Msg.rowsF b = some l) => show l.length ≤ b.length from by
    obtain ⟨e1, e2⟩ := (Msg.rows_iff b l).1 h
    rw [e1]; exact netsF_count l)
  obtain ⟨r, HRR⟩ : ∃ r, Hid (Msg.askedR b = r) := ⟨_, hide rfl⟩
  rw [HRR.out]
  obtain ⟨n, HN⟩ : ∃ n, Hid (b.length = n) := ⟨_, hide rfl⟩
  rw [HN.out] at h1 hl HRW ⊢
  unfold maxLen at h2
  clear hv hb
  obtain ⟨g0, HG⟩ : ∃ k, Hid (w.heap.size = k) := ⟨_, hide rfl⟩
  have hw0 : g0 ≤ w.heap.size := by have := HG.out; omega
  go_enter Tryd.func24, Tryd.ntmps24
  go_wp2_with (refine wpList_rq_zero rfl rfl ?_; intro w1 hb1 hw1 hs1; rw [HG.out] at hb1 hw1 hs1; try rw [HG.out]; have HR := hide hb1; have HW := hide hw1; clear hb1 hw1)
  refine (HRW.out w1 (HW.out.mono (by have := HG.out; omega))).mono ?_
  rintro e w2 (⟨vr, rows, hrw, rfl, hrr, hb2⟩ | ⟨hrw, rfl, hb2⟩)
  case inr =>
    have hz2 := hb2.size
    have HNR := hide (show r = none by rw [← HRR.out]; exact Msg.askedR_none hrw)
    replace HR := hide (HR.out.below hb2 (by omega))
    replace HW := hide (HW.out.trans (hb2.mono (by omega)))
    clear hrw hb2 HRW
    go_wp2_with (first
      | go_skip
      | (refine wpList_st_build 31 _ rfl rfl (reqCells req0 (.slice none 0 0) (.slice none 0 0)) built_req0 ?_)
      | (refine wpList_rq_putAll _ _ rfl rfl rfl HR.out req0 (.slice none 0 0) (.slice none 0 0) rfl req0_keys rfl rfl ?_; intro w9 hb9 hg9 hs9; replace HR := hide hb9; replace HW := hide (HW.out.grown hg9 (by omega) (by intro k hk; injection hk; omega)); clear hb9 hg9)
      | (exact bodyPost_ret (results_st rfl _ _ g0 _ _ rfl HR.out.blk _ Tryd.underlying31 rfl size_req0 _ rfl) rfl (.inr ⟨HNR.out, rfl, by rw [HG.out]; exact HW.out⟩)))
  have hz2 := hb2.size
  have HRWS := hide hrw
  replace HR := hide (HR.out.below hb2 (by omega))
  replace HW := hide (HW.out.trans (hb2.mono (by omega)))
  have HL := hide (HRL.out rows hrw)
  have HXX := hide (HRB.out rows hrw)
  have HRO := hide hrr
  obtain ⟨Ar, cr, rfl, g1, g2, g3⟩ := hrr.open_
  unfold maxLen at g2
  obtain ⟨L, HLL⟩ : ∃ n, Hid (rows.length = n) := ⟨_, hide rfl⟩
  clear hrw hb2 HRW hrr HRB HRL
  by_cases hsm : rows.length < 7
  · have HNR := hide (show r = none by rw [← HRR.out]; exact Msg.askedR_short HRWS.out hsm)
    have i2 : (L : Int) < 7 := by have := HLL.out; omega
    rw [HLL.out] at g1 ⊢
    clear g3 hsm
    by_cases hbig : 16384 < n
    · have i1 : (16384 : Int) < (n : Int) := by omega
      go_wp2_with (first
        | go_skip
        | (refine wpList_st_build 31 _ rfl rfl (reqCells req0 (.slice none 0 0) (.slice none 0 0)) built_req0 ?_)
        | (refine wpList_rq_putAll _ _ rfl rfl rfl HR.out req0 (.slice none 0 0) (.slice none 0 0) rfl req0_keys rfl rfl ?_; intro w9 hb9 hg9 hs9; replace HR := hide hb9; replace HW := hide (HW.out.grown hg9 (by omega) (by intro k hk; injection hk; omega)); clear hb9 hg9)
        | (exact bodyPost_ret (results_st rfl _ _ g0 _ _ rfl HR.out.blk _ Tryd.underlying31 rfl size_req0 _ rfl) rfl (.inr ⟨HNR.out, rfl, by rw [HG.out]; exact HW.out⟩)))
    have i1 : ¬ (16384 : Int) < (n : Int) := by omega
    go_wp2_with (first
      | go_skip
      | (refine wpList_st_build 31 _ rfl rfl (reqCells req0 (.slice none 0 0) (.slice none 0 0)) built_req0 ?_)
      | (refine wpList_rq_putAll _ _ rfl rfl rfl HR.out req0 (.slice none 0 0) (.slice none 0 0) rfl req0_keys rfl rfl ?_; intro w9 hb9 hg9 hs9; replace HR := hide hb9; replace HW := hide (HW.out.grown hg9 (by omega) (by intro k hk; injection hk; omega)); clear hb9 hg9)
      | (exact bodyPost_ret (results_st rfl _ _ g0 _ _ rfl HR.out.blk _ Tryd.underlying31 rfl size_req0 _ rfl) rfl (.inr ⟨HNR.out, rfl, by rw [HG.out]; exact HW.out⟩)))
  obtain ⟨x0, x1, x2, x3, x4, x5, rest, rfl⟩ : ∃ x0 x1 x2 x3 x4 x5 rest, rows = x0 :: x1 :: x2 :: x3 :: x4 :: x5 :: rest := by
    match rows, hsm with
    | x0 :: x1 :: x2 :: x3 :: x4 :: x5 :: rest, _ => exact ⟨_, _, _, _, _, _, _, rfl⟩
    | [], h => exact absurd (by simp) h
    | [_], h => exact absurd (by simp) h
    | [_, _], h => exact absurd (by simp) h
    | [_, _, _], h => exact absurd (by simp) h
    | [_, _, _, _], h => exact absurd (by simp) h
    | [_, _, _, _, _], h => exact absurd (by simp) h
  have HOFF := hide (fun (_ : Nat) (h : ¬ Msg.HeadR b x0 x1 x2 x3 x4 x5 rest) => show r = none by rw [← HRR.out]; exact Msg.askedR_off HRWS.out h)
  have HGO := hide (fun (_ : Nat) (H : Msg.HeadR b x0 x1 x2 x3 x4 x5 rest) => HRR.out.symm.trans (Msg.askedR_go HRWS.out H))
  have hLr : rest.length + 6 = L := by have := HLL.out; simp only [List.length_cons] at this; omega
  have i2 : ¬ (L : Int) < 7 := by simp only [List.length_cons] at hsm; omega
  have HLEN := hide (show rest.length ≤ 1000000 by have := HL.out; rw [HN.out] at this; simp only [List.length_cons] at this; omega)
  clear HRR HRWS
  by_cases hbig : 16384 < n
  · have HNR := hide (HOFF.out 0 (fun h => by have := h.len; rw [HN.out] at this; omega))
    have i1 : (16384 : Int) < (n : Int) := by omega
    rw [HLL.out] at g1 ⊢
    clear g3 hsm
    go_wp2_with (first
      | go_skip
      | (refine wpList_st_build 31 _ rfl rfl (reqCells req0 (.slice none 0 0) (.slice none 0 0)) built_req0 ?_)
      | (refine wpList_rq_putAll _ _ rfl rfl rfl HR.out req0 (.slice none 0 0) (.slice none 0 0) rfl req0_keys rfl rfl ?_; intro w9 hb9 hg9 hs9; replace HR := hide hb9; replace HW := hide (HW.out.grown hg9 (by omega) (by intro k hk; injection hk; omega)); clear hb9 hg9)
      | (exact bodyPost_ret (results_st rfl _ _ g0 _ _ rfl HR.out.blk _ Tryd.underlying31 rfl size_req0 _ rfl) rfl (.inr ⟨HNR.out, rfl, by rw [HG.out]; exact HW.out⟩)))
  have i1 : ¬ (16384 : Int) < (n : Int) := by omega
  obtain ⟨bb, oo, rfl, hbb, hcc⟩ := g3 (by simp)
  have hL7 : 7 ≤ L := by omega
  rw [HLL.out] at g1 HRO ⊢
  obtain ⟨u0, hc0, hu0⟩ := hcc 0 (by simp)
  simp only [List.getElem_cons_zero, List.getElem_cons_succ, Nat.add_zero] at hc0 hu0
  obtain ⟨A0, c0, rfl, _, _, _⟩ := hu0.open_
  obtain ⟨n0, HN0⟩ : ∃ n, Hid (x0.length = n) := ⟨_, hide rfl⟩
  rw [HN0.out] at hc0 hu0
  have HU0 := hide hu0
  clear hu0
  obtain ⟨u1, hc1, hu1⟩ := hcc 1 (by simp)
  simp only [List.getElem_cons_zero, List.getElem_cons_succ] at hc1 hu1
  obtain ⟨A1, c1, rfl, _, _, _⟩ := hu1.open_
  obtain ⟨n1, HN1⟩ : ∃ n, Hid (x1.length = n) := ⟨_, hide rfl⟩
  rw [HN1.out] at hc1 hu1
  have HU1 := hide hu1
  clear hu1
  obtain ⟨u2, hc2, hu2⟩ := hcc 2 (by simp)
  simp only [List.getElem_cons_zero, List.getElem_cons_succ] at hc2 hu2
  obtain ⟨A2, c2, rfl, _, _, _⟩ := hu2.open_
  obtain ⟨n2, HN2⟩ : ∃ n, Hid (x2.length = n) := ⟨_, hide rfl⟩
  rw [HN2.out] at hc2 hu2
  have HU2 := hide hu2
  clear hu2
  obtain ⟨u3, hc3, hu3⟩ := hcc 3 (by simp)
  simp only [List.getElem_cons_zero, List.getElem_cons_succ] at hc3 hu3
  obtain ⟨A3, c3, rfl, _, _, _⟩ := hu3.open_
  obtain ⟨n3, HN3⟩ : ∃ n, Hid (x3.length = n) := ⟨_, hide rfl⟩
  rw [HN3.out] at hc3 hu3
  have HU3 := hide hu3
  clear hu3
  obtain ⟨u4, hc4, hu4⟩ := hcc 4 (by simp)
  simp only [List.getElem_cons_zero, List.getElem_cons_succ] at hc4 hu4
  obtain ⟨A4, c4, rfl, _, _, _⟩ := hu4.open_
  obtain ⟨n4, HN4⟩ : ∃ n, Hid (x4.length = n) := ⟨_, hide rfl⟩
  rw [HN4.out] at hc4 hu4
  have HU4 := hide hu4
  clear hu4
  obtain ⟨u5, hc5, hu5⟩ := hcc 5 (by simp)
  simp only [List.getElem_cons_zero, List.getElem_cons_succ] at hc5 hu5
  obtain ⟨A5, c5, rfl, _, _, _⟩ := hu5.open_
  obtain ⟨n5, HN5⟩ : ∃ n, Hid (x5.length = n) := ⟨_, hide rfl⟩
  rw [HN5.out] at hc5 hu5
  have HU5 := hide hu5
  clear hu5
  have HCC := hide hcc
  clear hcc hsm
  by_cases hn0 : n0 = 1
  case neg =>
    have HNR := hide (HOFF.out 0 (fun h => hn0 (by rw [← HN0.out]; exact h.k1)))
    have hq0 : ((n0 : Int) != 1) = true := by simp; omega
    go_wp2_with (first
      | go_skip
      | (refine wpList_st_build 31 _ rfl rfl (reqCells req0 (.slice none 0 0) (.slice none 0 0)) built_req0 ?_)
      | (refine wpList_rq_putAll _ _ rfl rfl rfl HR.out req0 (.slice none 0 0) (.slice none 0 0) rfl req0_keys rfl rfl ?_; intro w9 hb9 hg9 hs9; replace HR := hide hb9; replace HW := hide (HW.out.grown hg9 (by omega) (by intro k hk; injection hk; omega)); clear hb9 hg9)
      | (exact bodyPost_ret (results_st rfl _ _ g0 _ _ rfl HR.out.blk _ Tryd.underlying31 rfl size_req0 _ rfl) rfl (.inr ⟨HNR.out, rfl, by rw [HG.out]; exact HW.out⟩)))
  subst hn0
  by_cases hn1 : n1 = 16
  case neg =>
    have HNR := hide (HOFF.out 0 (fun h => hn1 (by rw [← HN1.out]; exact h.i1)))
    have hq1 : ((n1 : Int) != 16) = true := by simp; omega
    go_wp2_with (first
      | go_skip
      | (refine wpList_st_build 31 _ rfl rfl (reqCells req0 (.slice none 0 0) (.slice none 0 0)) built_req0 ?_)
      | (refine wpList_rq_putAll _ _ rfl rfl rfl HR.out req0 (.slice none 0 0) (.slice none 0 0) rfl req0_keys rfl rfl ?_; intro w9 hb9 hg9 hs9; replace HR := hide hb9; replace HW := hide (HW.out.grown hg9 (by omega) (by intro k hk; injection hk; omega)); clear hb9 hg9)
      | (exact bodyPost_ret (results_st rfl _ _ g0 _ _ rfl HR.out.blk _ Tryd.underlying31 rfl size_req0 _ rfl) rfl (.inr ⟨HNR.out, rfl, by rw [HG.out]; exact HW.out⟩)))
  subst hn1
  by_cases hn2 : n2 = 16
  case neg =>
    have HNR := hide (HOFF.out 0 (fun h => hn2 (by rw [← HN2.out]; exact h.s1)))
    have hq2 : ((n2 : Int) != 16) = true := by simp; omega
    go_wp2_with (first
      | go_skip
      | (refine wpList_st_build 31 _ rfl rfl (reqCells req0 (.slice none 0 0) (.slice none 0 0)) built_req0 ?_)
      | (refine wpList_rq_putAll _ _ rfl rfl rfl HR.out req0 (.slice none 0 0) (.slice none 0 0) rfl req0_keys rfl rfl ?_; intro w9 hb9 hg9 hs9; replace HR := hide hb9; replace HW := hide (HW.out.grown hg9 (by omega) (by intro k hk; injection hk; omega)); clear hb9 hg9)
      | (exact bodyPost_ret (results_st rfl _ _ g0 _ _ rfl HR.out.blk _ Tryd.underlying31 rfl size_req0 _ rfl) rfl (.inr ⟨HNR.out, rfl, by rw [HG.out]; exact HW.out⟩)))
  subst hn2
  by_cases hn3 : n3 = 4
  case neg =>
    have HNR := hide (HOFF.out 0 (fun h => hn3 (by rw [← HN3.out]; exact h.e1)))
    have hq3 : ((n3 : Int) != 4) = true := by simp; omega
    go_wp2_with (first
      | go_skip
      | (refine wpList_st_build 31 _ rfl rfl (reqCells req0 (.slice none 0 0) (.slice none 0 0)) built_req0 ?_)
      | (refine wpList_rq_putAll _ _ rfl rfl rfl HR.out req0 (.slice none 0 0) (.slice none 0 0) rfl req0_keys rfl rfl ?_; intro w9 hb9 hg9 hs9; replace HR := hide hb9; replace HW := hide (HW.out.grown hg9 (by omega) (by intro k hk; injection hk; omega)); clear hb9 hg9)
      | (exact bodyPost_ret (results_st rfl _ _ g0 _ _ rfl HR.out.blk _ Tryd.underlying31 rfl size_req0 _ rfl) rfl (.inr ⟨HNR.out, rfl, by rw [HG.out]; exact HW.out⟩)))
  subst hn3
  by_cases hn4 : n4 = 16
  case neg =>
    have HNR := hide (HOFF.out 0 (fun h => hn4 (by rw [← HN4.out]; exact h.en1)))
    have hq4 : ((n4 : Int) != 16) = true := by simp; omega
    go_wp2_with (first
      | go_skip
      | (refine wpList_st_build 31 _ rfl rfl (reqCells req0 (.slice none 0 0) (.slice none 0 0)) built_req0 ?_)
      | (refine wpList_rq_putAll _ _ rfl rfl rfl HR.out req0 (.slice none 0 0) (.slice none 0 0) rfl req0_keys rfl rfl ?_; intro w9 hb9 hg9 hs9; replace HR := hide hb9; replace HW := hide (HW.out.grown hg9 (by omega) (by intro k hk; injection hk; omega)); clear hb9 hg9)
      | (exact bodyPost_ret (results_st rfl _ _ g0 _ _ rfl HR.out.blk _ Tryd.underlying31 rfl size_req0 _ rfl) rfl (.inr ⟨HNR.out, rfl, by rw [HG.out]; exact HW.out⟩)))
  subst hn4
  by_cases hn5 : n5 = 1
  case neg =>
    have HNR := hide (HOFF.out 0 (fun h => hn5 (by rw [← HN5.out]; exact h.c1)))
    have hq5 : ((n5 : Int) != 1) = true := by simp; omega
    go_wp2_with (first
      | go_skip
      | (refine wpList_st_build 31 _ rfl rfl (reqCells req0 (.slice none 0 0) (.slice none 0 0)) built_req0 ?_)
      | (refine wpList_rq_putAll _ _ rfl rfl rfl HR.out req0 (.slice none 0 0) (.slice none 0 0) rfl req0_keys rfl rfl ?_; intro w9 hb9 hg9 hs9; replace HR := hide hb9; replace HW := hide (HW.out.grown hg9 (by omega) (by intro k hk; injection hk; omega)); clear hb9 hg9)
      | (exact bodyPost_ret (results_st rfl _ _ g0 _ _ rfl HR.out.blk _ Tryd.underlying31 rfl size_req0 _ rfl) rfl (.inr ⟨HNR.out, rfl, by rw [HG.out]; exact HW.out⟩)))
  subst hn5
  obtain ⟨b0, o0, rfl, hb0, _, hd0, hK0, hK1⟩ := bs_one (x := x0) HU0.out HN0.out (HXX.out x0 (by simp)).1
  obtain ⟨b5, o5, rfl, hb5, _, hd5, hC0, hC1⟩ := bs_one (x := x5) HU5.out HN5.out (HXX.out x5 (by simp)).1
  obtain ⟨K, HKK⟩ : ∃ K, Hid (x0.getD 0 0 = K) := ⟨_, hide rfl⟩
  obtain ⟨C, HCC5⟩ : ∃ C, Hid (x5.getD 0 0 = C) := ⟨_, hide rfl⟩
  rw [HKK.out] at hd0 hK0 hK1
  rw [HCC5.out] at hd5 hC0 hC1
  obtain ⟨m, rfl⟩ := Int.eq_ofNat_of_zero_le hC0
  go_upto_region 4 with go_skip
  obtain ⟨QQ, HQQ⟩ : ∃ q : Msg.Req, Hid (⟨K, x1, x2, 0, x4, [], []⟩ = q) := ⟨_, hide rfl⟩
  have HQK := hide (show KeysR QQ from by rw [← HQQ.out]; exact ⟨HN1.out, HN2.out, HN4.out⟩)
  have HBQ := hide (built_req4 K x1 x2 x4 HN1.out HN2.out HN4.out)
  rw [HQQ.out] at HBQ
  have HK1 := hide (fun (w' : World) (h : Below w2.heap.size w2 w') => key_ref (.slice A1 16 c1) x1 w' ((HU1.out.below h (Nat.le_refl _)).more h.size) HN1.out)
  have HK2 := hide (fun (w' : World) (h : Below w2.heap.size w2 w') => key_ref (.slice A2 16 c2) x2 w' ((HU2.out.below h (Nat.le_refl _)).more h.size) HN2.out)
  have HK4 := hide (fun (w' : World) (h : Below w2.heap.size w2 w') => key_ref (.slice A4 16 c4) x4 w' ((HU4.out.below h (Nat.le_refl _)).more h.size) HN4.out)
  have HC0 := hide hc0
  have HC1 := hide hc1
  have HC2 := hide hc2
  have HC3 := hide hc3
  have HC4 := hide hc4
  have HC5 := hide hc5
  have HD0 := hide hd0
  have HD5 := hide hd5
  clear hc0 hc1 hc2 hc3 hc4 hc5 hd0 hd5
  go_cut [6] from 74 to 92 (fun v6 wx => ∃ g6, v6 = .pointer (some ⟨g6, 0, none⟩) ∧ ReqB wx g6 QQ (.slice none 0 0) (.slice none 0 0) ∧ Below w2.heap.size w2 wx ∧ w2.heap.size ≤ g6)
  case first =>
    refine wp_region_held_drew (S := fun w' => Below w2.heap.size w2 w') (by kernel_rfl) (Below.refl _ _).drew (fun hHeld => ?_)
    refine take_d 74 (i := 0) (v := .slice (some ⟨bb, oo, none⟩) L cr) rfl (by kernel_rfl) (by kernel_rfl) (by kernel_rfl) (by kernel_rfl) (fun _ _ _ h => h) (Or.inl ⟨by kernel_rfl, fun w' hS => exec_move _ rfl (.slice (some ⟨bb, oo, none⟩) L cr) rfl⟩) hHeld ?_
    try simp only [Act.put, List.setIfInBounds_toArray, List.set_cons_zero, List.set_cons_succ]
    refine take_d 75 (i := 1) (v := .pointer (some ⟨bb, oo, none⟩)) rfl (by kernel_rfl) (by kernel_rfl) (by kernel_rfl) (by kernel_rfl) (fun _ _ _ h => h) (Or.inl ⟨by kernel_rfl, fun w' hS => exec_indexG _ _ _ rfl _ L cr bb oo 1 0 rfl rfl rfl (by omega) (by kernel_rfl) _ (by omega)⟩) hHeld ?_
    try simp only [Act.put, List.setIfInBounds_toArray, List.set_cons_zero, List.set_cons_succ]
    refine take_d 76 (i := 2) (v := .slice (some ⟨b0, o0, none⟩) 1 c0) rfl (by kernel_rfl) (by kernel_rfl) (by kernel_rfl) (by kernel_rfl) (fun _ _ _ h => h) (Or.inl ⟨by kernel_rfl, fun w' hS => exec_load_one _ _ rfl bb oo rfl _ Tryd.underlying26 rfl _ ((hS.cell (p := ⟨bb, oo, none⟩) hbb).trans HC0.out)⟩) hHeld ?_
    try simp only [Act.put, List.setIfInBounds_toArray, List.set_cons_zero, List.set_cons_succ]
    refine take_d 77 (i := 3) (v := .pointer (some ⟨b0, o0, none⟩)) rfl (by kernel_rfl) (by kernel_rfl) (by kernel_rfl) (by kernel_rfl) (fun _ _ _ h => h) (Or.inl ⟨by kernel_rfl, fun w' hS => exec_indexG _ _ _ rfl _ 1 c0 b0 o0 1 0 rfl rfl rfl (by omega) (by kernel_rfl) _ (by omega)⟩) hHeld ?_
    try simp only [Act.put, List.setIfInBounds_toArray, List.set_cons_zero, List.set_cons_succ]
    refine take_d 78 (i := 4) (v := .int .u8 (K)) rfl (by kernel_rfl) (by kernel_rfl) (by kernel_rfl) (by kernel_rfl) (fun _ _ _ h => h) (Or.inl ⟨by kernel_rfl, fun w' hS => exec_load_one _ _ rfl b0 o0 rfl _ Tryd.underlying5 rfl _ ((hS.cell (p := ⟨b0, o0, none⟩) hb0).trans HD0.out)⟩) hHeld ?_
    try simp only [Act.put, List.setIfInBounds_toArray, List.set_cons_zero, List.set_cons_succ]
    refine take_d 79 (i := 5) (v := .int .i64 K) rfl (by kernel_rfl) (by kernel_rfl) (by kernel_rfl) (by kernel_rfl) (fun _ _ _ h => h) (Or.inl ⟨by kernel_rfl, fun w' hS => exec_u8_int _ _ rfl rfl (by omega) (by omega)⟩) hHeld ?_
    try simp only [Act.put, List.setIfInBounds_toArray, List.set_cons_zero, List.set_cons_succ]
    refine take_d 80 (i := 6) (v := .slice (some ⟨bb, oo, none⟩) L cr) rfl (by kernel_rfl) (by kernel_rfl) (by kernel_rfl) (by kernel_rfl) (fun _ _ _ h => h) (Or.inl ⟨by kernel_rfl, fun w' hS => exec_move _ rfl (.slice (some ⟨bb, oo, none⟩) L cr) rfl⟩) hHeld ?_
    try simp only [Act.put, List.setIfInBounds_toArray, List.set_cons_zero, List.set_cons_succ]
    refine take_d 81 (i := 7) (v := .pointer (some ⟨bb, oo + 1, none⟩)) rfl (by kernel_rfl) (by kernel_rfl) (by kernel_rfl) (by kernel_rfl) (fun _ _ _ h => h) (Or.inl ⟨by kernel_rfl, fun w' hS => exec_indexG _ _ _ rfl _ L cr bb oo 1 1 rfl rfl rfl (by omega) (by kernel_rfl) _ (by omega)⟩) hHeld ?_
    try simp only [Act.put, List.setIfInBounds_toArray, List.set_cons_zero, List.set_cons_succ]
    refine take_d 82 (i := 8) (v := .slice A1 16 c1) rfl (by kernel_rfl) (by kernel_rfl) (by kernel_rfl) (by kernel_rfl) (fun _ _ _ h => h) (Or.inl ⟨by kernel_rfl, fun w' hS => exec_load_one _ _ rfl bb (oo + 1) rfl _ Tryd.underlying26 rfl _ ((hS.cell (p := ⟨bb, oo + 1, none⟩) hbb).trans HC1.out)⟩) hHeld ?_
    try simp only [Act.put, List.setIfInBounds_toArray, List.set_cons_zero, List.set_cons_succ]
    refine take_d 84 (i := 10) (v := .slice (some ⟨bb, oo, none⟩) L cr) rfl (by kernel_rfl) (by kernel_rfl) (by kernel_rfl) (by kernel_rfl) (fun _ _ _ h => h) (Or.inl ⟨by kernel_rfl, fun w' hS => exec_move _ rfl (.slice (some ⟨bb, oo, none⟩) L cr) rfl⟩) hHeld ?_
    try simp only [Act.put, List.setIfInBounds_toArray, List.set_cons_zero, List.set_cons_succ]
    refine take_d 85 (i := 11) (v := .pointer (some ⟨bb, oo + 2, none⟩)) rfl (by kernel_rfl) (by kernel_rfl) (by kernel_rfl) (by kernel_rfl) (fun _ _ _ h => h) (Or.inl ⟨by kernel_rfl, fun w' hS => exec_indexG _ _ _ rfl _ L cr bb oo 1 2 rfl rfl rfl (by omega) (by kernel_rfl) _ (by omega)⟩) hHeld ?_
    try simp only [Act.put, List.setIfInBounds_toArray, List.set_cons_zero, List.set_cons_succ]
    refine take_d 86 (i := 12) (v := .slice A2 16 c2) rfl (by kernel_rfl) (by kernel_rfl) (by kernel_rfl) (by kernel_rfl) (fun _ _ _ h => h) (Or.inl ⟨by kernel_rfl, fun w' hS => exec_load_one _ _ rfl bb (oo + 2) rfl _ Tryd.underlying26 rfl _ ((hS.cell (p := ⟨bb, oo + 2, none⟩) hbb).trans HC2.out)⟩) hHeld ?_
    try simp only [Act.put, List.setIfInBounds_toArray, List.set_cons_zero, List.set_cons_succ]
    refine take_d 88 (i := 14) (v := .slice (some ⟨bb, oo, none⟩) L cr) rfl (by kernel_rfl) (by kernel_rfl) (by kernel_rfl) (by kernel_rfl) (fun _ _ _ h => h) (Or.inl ⟨by kernel_rfl, fun w' hS => exec_move _ rfl (.slice (some ⟨bb, oo, none⟩) L cr) rfl⟩) hHeld ?_
    try simp only [Act.put, List.setIfInBounds_toArray, List.set_cons_zero, List.set_cons_succ]
    refine take_d 89 (i := 15) (v := .pointer (some ⟨bb, oo + 4, none⟩)) rfl (by kernel_rfl) (by kernel_rfl) (by kernel_rfl) (by kernel_rfl) (fun _ _ _ h => h) (Or.inl ⟨by kernel_rfl, fun w' hS => exec_indexG _ _ _ rfl _ L cr bb oo 1 4 rfl rfl rfl (by omega) (by kernel_rfl) _ (by omega)⟩) hHeld ?_
    try simp only [Act.put, List.setIfInBounds_toArray, List.set_cons_zero, List.set_cons_succ]
    refine take_d 90 (i := 16) (v := .slice A4 16 c4) rfl (by kernel_rfl) (by kernel_rfl) (by kernel_rfl) (by kernel_rfl) (fun _ _ _ h => h) (Or.inl ⟨by kernel_rfl, fun w' hS => exec_load_one _ _ rfl bb (oo + 4) rfl _ Tryd.underlying26 rfl _ ((hS.cell (p := ⟨bb, oo + 4, none⟩) hbb).trans HC4.out)⟩) hHeld ?_
    try simp only [Act.put, List.setIfInBounds_toArray, List.set_cons_zero, List.set_cons_succ]
    refine wpAnyH_ready (rs := [9, 19]) (by kernel_rfl) (by simp) (AllReadyH.cons rfl (fun K hK => ?q1_9) (AllReadyH.cons rfl (fun K hK => ?q2_19) AllReadyH.nil))
    case q1_9 =>
      rw [if_pos (by kernel_rfl)]
      try go_simp
      refine (HK1.out _ hHeld).mono ?_
      rintro e w83 ⟨rfl, hb83⟩
      have HX := hide (hHeld.trans (hb83.mono hHeld.size))
      try replace HZ := hide (HZ.out.below hb83 HZ.out.lt)
      clear hb83
      refine hK.out _ _ HX.out (fun hHeld => ?_)
      clear HX hK K
      try simp only [Act.put, List.setIfInBounds_toArray, List.set_cons_zero, List.set_cons_succ]
      refine wpAnyH_ready (rs := [13, 19]) (by kernel_rfl) (by simp) (AllReadyH.cons rfl (fun K hK => ?q3_13) (AllReadyH.cons rfl (fun K hK => ?q4_19) AllReadyH.nil))
      case q3_13 =>
        rw [if_pos (by kernel_rfl)]
        try go_simp
        refine (HK2.out _ hHeld).mono ?_
        rintro e w87 ⟨rfl, hb87⟩
        have HX := hide (hHeld.trans (hb87.mono hHeld.size))
        try replace HZ := hide (HZ.out.below hb87 HZ.out.lt)
        clear hb87
        refine hK.out _ _ HX.out (fun hHeld => ?_)
        clear HX hK K
        try simp only [Act.put, List.setIfInBounds_toArray, List.set_cons_zero, List.set_cons_succ]
        refine wpAnyH_ready (rs := [17, 19]) (by kernel_rfl) (by simp) (AllReadyH.cons rfl (fun K hK => ?q5_17) (AllReadyH.cons rfl (fun K hK => ?q6_19) AllReadyH.nil))
        case q5_17 =>
          rw [if_pos (by kernel_rfl)]
          try go_simp
          refine (HK4.out _ hHeld).mono ?_
          rintro e w91 ⟨rfl, hb91⟩
          have HX := hide (hHeld.trans (hb91.mono hHeld.size))
          try replace HZ := hide (HZ.out.below hb91 HZ.out.lt)
          clear hb91
          refine hK.out _ _ HX.out (fun hHeld => ?_)
          clear HX hK K
          try simp only [Act.put, List.setIfInBounds_toArray, List.set_cons_zero, List.set_cons_succ]
          refine take_d 92 (i := 18) (v := .agg (reqCells QQ (.slice none 0 0) (.slice none 0 0)).toArray) rfl (by kernel_rfl) (by kernel_rfl) (by kernel_rfl) (by kernel_rfl) (fun _ _ _ h => h) (Or.inl ⟨by kernel_rfl, fun w' hS => (exec_build4 _ _ _ _ _ _ _ _ _ rfl _ _ _ _ rfl rfl rfl rfl _ HBQ.out)⟩) hHeld ?_
          try simp only [Act.put, List.setIfInBounds_toArray, List.set_cons_zero, List.set_cons_succ]
          refine wpAnyH_ready (rs := [19]) (by kernel_rfl) (by simp) (AllReadyH.cons rfl (fun K hK => ?_) AllReadyH.nil)
          rw [if_pos (by kernel_rfl)]
          refine wp_alloc_blkG 31 6 rfl rfl _ zero_req ?_
          intro g6 w6 hg6 hb6 hw6
          have HZ := hide (show ReqB w6 g6 req0 (.slice none 0 0) (.slice none 0 0) from ⟨hb6, req0_keys, rfl, rfl⟩)
          have HX := hide (hHeld.trans (hw6.mono hHeld.size))
          have hgz : w2.heap.size ≤ g6 := by have := hHeld.size; omega
          clear hb6 hw6
          refine hK.out _ _ HX.out (fun hHeld => ?_)
          clear HX hK K
          try simp only [Act.put, List.setIfInBounds_toArray, List.set_cons_zero, List.set_cons_succ]
          refine wpAnyH_ready (rs := [20]) (by kernel_rfl) (by simp) (AllReadyH.cons rfl (fun K hK => ?_) AllReadyH.nil)
          rw [if_pos (by kernel_rfl)]
          refine wp_store_blkD 31 _ _ rfl rfl g6 0 (reqCells QQ (.slice none 0 0) (.slice none 0 0)) rfl rfl _ _ HZ.out.blk (by rw [rq_len HZ.out.keys, rq_len HQK.out]; omega) (by rw [rq_len HQK.out]; exact size_req) (rq_one rfl rfl) ?_
          intro ws hbs hgs hss
          have HZ2 := hide (show ReqB ws g6 QQ (.slice none 0 0) (.slice none 0 0) from ⟨(by rw [lset_all _ _ (by rw [rq_len HZ.out.keys, rq_len HQK.out])] at hbs; exact hbs), HQK.out, rfl, rfl⟩)
          refine hK.out _ _ (hHeld.grown hgs hHeld.size (by intro k hk; injection hk; omega)) (fun hHeld => ?_)
          clear hK K hbs hgs hss
          try simp only [Act.put, List.setIfInBounds_toArray, List.set_cons_zero, List.set_cons_succ]
          refine wpAnyH_done (by kernel_rfl) ?_ _
          go_wp2_with fail
          go_meet
          exact ⟨_, rfl, HZ2.out, hHeld, hgz⟩
        case q6_19 =>
          rw [if_pos (by kernel_rfl)]
          refine wp_alloc_blkG 31 6 rfl rfl _ zero_req ?_
          intro g6 w6 hg6 hb6 hw6
          have HZ := hide (show ReqB w6 g6 req0 (.slice none 0 0) (.slice none 0 0) from ⟨hb6, req0_keys, rfl, rfl⟩)
          have HX := hide (hHeld.trans (hw6.mono hHeld.size))
          have hgz : w2.heap.size ≤ g6 := by have := hHeld.size; omega
          clear hb6 hw6
          refine hK.out _ _ HX.out (fun hHeld => ?_)
          clear HX hK K
          try simp only [Act.put, List.setIfInBounds_toArray, List.set_cons_zero, List.set_cons_succ]
          refine wpAnyH_ready (rs := [17]) (by kernel_rfl) (by simp) (AllReadyH.cons rfl (fun K hK => ?_) AllReadyH.nil)
          rw [if_pos (by kernel_rfl)]
          try go_simp
          refine (HK4.out _ hHeld).mono ?_
          rintro e w91 ⟨rfl, hb91⟩
          have HX := hide (hHeld.trans (hb91.mono hHeld.size))
          try replace HZ := hide (HZ.out.below hb91 HZ.out.lt)
          clear hb91
          refine hK.out _ _ HX.out (fun hHeld => ?_)
          clear HX hK K
          try simp only [Act.put, List.setIfInBounds_toArray, List.set_cons_zero, List.set_cons_succ]
          refine take_d 92 (i := 18) (v := .agg (reqCells QQ (.slice none 0 0) (.slice none 0 0)).toArray) rfl (by kernel_rfl) (by kernel_rfl) (by kernel_rfl) (by kernel_rfl) (fun _ _ _ h => h) (Or.inl ⟨by kernel_rfl, fun w' hS => (exec_build4 _ _ _ _ _ _ _ _ _ rfl _ _ _ _ rfl rfl rfl rfl _ HBQ.out)⟩) hHeld ?_
          try simp only [Act.put, List.setIfInBounds_toArray, List.set_cons_zero, List.set_cons_succ]
          refine wpAnyH_ready (rs := [20]) (by kernel_rfl) (by simp) (AllReadyH.cons rfl (fun K hK => ?_) AllReadyH.nil)
          rw [if_pos (by kernel_rfl)]
          refine wp_store_blkD 31 _ _ rfl rfl g6 0 (reqCells QQ (.slice none 0 0) (.slice none 0 0)) rfl rfl _ _ HZ.out.blk (by rw [rq_len HZ.out.keys, rq_len HQK.out]; omega) (by rw [rq_len HQK.out]; exact size_req) (rq_one rfl rfl) ?_
          intro ws hbs hgs hss
          have HZ2 := hide (show ReqB ws g6 QQ (.slice none 0 0) (.slice none 0 0) from ⟨(by rw [lset_all _ _ (by rw [rq_len HZ.out.keys, rq_len HQK.out])] at hbs; exact hbs), HQK.out, rfl, rfl⟩)
          refine hK.out _ _ (hHeld.grown hgs hHeld.size (by intro k hk; injection hk; omega)) (fun hHeld => ?_)
          clear hK K hbs hgs hss
          try simp only [Act.put, List.setIfInBounds_toArray, List.set_cons_zero, List.set_cons_succ]
          refine wpAnyH_done (by kernel_rfl) ?_ _
          go_wp2_with fail
          go_meet
          exact ⟨_, rfl, HZ2.out, hHeld, hgz⟩
      case q4_19 =>
        rw [if_pos (by kernel_rfl)]
        refine wp_alloc_blkG 31 6 rfl rfl _ zero_req ?_
        intro g6 w6 hg6 hb6 hw6
        have HZ := hide (show ReqB w6 g6 req0 (.slice none 0 0) (.slice none 0 0) from ⟨hb6, req0_keys, rfl, rfl⟩)
        have HX := hide (hHeld.trans (hw6.mono hHeld.size))
        have hgz : w2.heap.size ≤ g6 := by have := hHeld.size; omega
        clear hb6 hw6
        refine hK.out _ _ HX.out (fun hHeld => ?_)
        clear HX hK K
        try simp only [Act.put, List.setIfInBounds_toArray, List.set_cons_zero, List.set_cons_succ]
        refine wpAnyH_ready (rs := [13]) (by kernel_rfl) (by simp) (AllReadyH.cons rfl (fun K hK => ?_) AllReadyH.nil)
        rw [if_pos (by kernel_rfl)]
        try go_simp
        refine (HK2.out _ hHeld).mono ?_
        rintro e w87 ⟨rfl, hb87⟩
        have HX := hide (hHeld.trans (hb87.mono hHeld.size))
        try replace HZ := hide (HZ.out.below hb87 HZ.out.lt)
        clear hb87
        refine hK.out _ _ HX.out (fun hHeld => ?_)
        clear HX hK K
        try simp only [Act.put, List.setIfInBounds_toArray, List.set_cons_zero, List.set_cons_succ]
        refine wpAnyH_ready (rs := [17]) (by kernel_rfl) (by simp) (AllReadyH.cons rfl (fun K hK => ?_) AllReadyH.nil)
        rw [if_pos (by kernel_rfl)]
        try go_simp
        refine (HK4.out _ hHeld).mono ?_
        rintro e w91 ⟨rfl, hb91⟩
        have HX := hide (hHeld.trans (hb91.mono hHeld.size))
        try replace HZ := hide (HZ.out.below hb91 HZ.out.lt)
        clear hb91
        refine hK.out _ _ HX.out (fun hHeld => ?_)
        clear HX hK K
        try simp only [Act.put, List.setIfInBounds_toArray, List.set_cons_zero, List.set_cons_succ]
        refine take_d 92 (i := 18) (v := .agg (reqCells QQ (.slice none 0 0) (.slice none 0 0)).toArray) rfl (by kernel_rfl) (by kernel_rfl) (by kernel_rfl) (by kernel_rfl) (fun _ _ _ h => h) (Or.inl ⟨by kernel_rfl, fun w' hS => (exec_build4 _ _ _ _ _ _ _ _ _ rfl _ _ _ _ rfl rfl rfl rfl _ HBQ.out)⟩) hHeld ?_
        try simp only [Act.put, List.setIfInBounds_toArray, List.set_cons_zero, List.set_cons_succ]
        refine wpAnyH_ready (rs := [20]) (by kernel_rfl) (by simp) (AllReadyH.cons rfl (fun K hK => ?_) AllReadyH.nil)
        rw [if_pos (by kernel_rfl)]
        refine wp_store_blkD 31 _ _ rfl rfl g6 0 (reqCells QQ (.slice none 0 0) (.slice none 0 0)) rfl rfl _ _ HZ.out.blk (by rw [rq_len HZ.out.keys, rq_len HQK.out]; omega) (by rw [rq_len HQK.out]; exact size_req) (rq_one rfl rfl) ?_
        intro ws hbs hgs hss
        have HZ2 := hide (show ReqB ws g6 QQ (.slice none 0 0) (.slice none 0 0) from ⟨(by rw [lset_all _ _ (by rw [rq_len HZ.out.keys, rq_len HQK.out])] at hbs; exact hbs), HQK.out, rfl, rfl⟩)
        refine hK.out _ _ (hHeld.grown hgs hHeld.size (by intro k hk; injection hk; omega)) (fun hHeld => ?_)
        clear hK K hbs hgs hss
        try simp only [Act.put, List.setIfInBounds_toArray, List.set_cons_zero, List.set_cons_succ]
        refine wpAnyH_done (by kernel_rfl) ?_ _
        go_wp2_with fail
        go_meet
        exact ⟨_, rfl, HZ2.out, hHeld, hgz⟩
    case q2_19 =>
      rw [if_pos (by kernel_rfl)]
      refine wp_alloc_blkG 31 6 rfl rfl _ zero_req ?_
      intro g6 w6 hg6 hb6 hw6
      have HZ := hide (show ReqB w6 g6 req0 (.slice none 0 0) (.slice none 0 0) from ⟨hb6, req0_keys, rfl, rfl⟩)
      have HX := hide (hHeld.trans (hw6.mono hHeld.size))
      have hgz : w2.heap.size ≤ g6 := by have := hHeld.size; omega
      clear hb6 hw6
      refine hK.out _ _ HX.out (fun hHeld => ?_)
      clear HX hK K
      try simp only [Act.put, List.setIfInBounds_toArray, List.set_cons_zero, List.set_cons_succ]
      refine wpAnyH_ready (rs := [9]) (by kernel_rfl) (by simp) (AllReadyH.cons rfl (fun K hK => ?_) AllReadyH.nil)
      rw [if_pos (by kernel_rfl)]
      try go_simp
      refine (HK1.out _ hHeld).mono ?_
      rintro e w83 ⟨rfl, hb83⟩
      have HX := hide (hHeld.trans (hb83.mono hHeld.size))
      try replace HZ := hide (HZ.out.below hb83 HZ.out.lt)
      clear hb83
      refine hK.out _ _ HX.out (fun hHeld => ?_)
      clear HX hK K
      try simp only [Act.put, List.setIfInBounds_toArray, List.set_cons_zero, List.set_cons_succ]
      refine wpAnyH_ready (rs := [13]) (by kernel_rfl) (by simp) (AllReadyH.cons rfl (fun K hK => ?_) AllReadyH.nil)
      rw [if_pos (by kernel_rfl)]
      try go_simp
      refine (HK2.out _ hHeld).mono ?_
      rintro e w87 ⟨rfl, hb87⟩
      have HX := hide (hHeld.trans (hb87.mono hHeld.size))
      try replace HZ := hide (HZ.out.below hb87 HZ.out.lt)
      clear hb87
      refine hK.out _ _ HX.out (fun hHeld => ?_)
      clear HX hK K
      try simp only [Act.put, List.setIfInBounds_toArray, List.set_cons_zero, List.set_cons_succ]
      refine wpAnyH_ready (rs := [17]) (by kernel_rfl) (by simp) (AllReadyH.cons rfl (fun K hK => ?_) AllReadyH.nil)
      rw [if_pos (by kernel_rfl)]
      try go_simp
      refine (HK4.out _ hHeld).mono ?_
      rintro e w91 ⟨rfl, hb91⟩
      have HX := hide (hHeld.trans (hb91.mono hHeld.size))
      try replace HZ := hide (HZ.out.below hb91 HZ.out.lt)
      clear hb91
      refine hK.out _ _ HX.out (fun hHeld => ?_)
      clear HX hK K
      try simp only [Act.put, List.setIfInBounds_toArray, List.set_cons_zero, List.set_cons_succ]
      refine take_d 92 (i := 18) (v := .agg (reqCells QQ (.slice none 0 0) (.slice none 0 0)).toArray) rfl (by kernel_rfl) (by kernel_rfl) (by kernel_rfl) (by kernel_rfl) (fun _ _ _ h => h) (Or.inl ⟨by kernel_rfl, fun w' hS => (exec_build4 _ _ _ _ _ _ _ _ _ rfl _ _ _ _ rfl rfl rfl rfl _ HBQ.out)⟩) hHeld ?_
      try simp only [Act.put, List.setIfInBounds_toArray, List.set_cons_zero, List.set_cons_succ]
      refine wpAnyH_ready (rs := [20]) (by kernel_rfl) (by simp) (AllReadyH.cons rfl (fun K hK => ?_) AllReadyH.nil)
      rw [if_pos (by kernel_rfl)]
      refine wp_store_blkD 31 _ _ rfl rfl g6 0 (reqCells QQ (.slice none 0 0) (.slice none 0 0)) rfl rfl _ _ HZ.out.blk (by rw [rq_len HZ.out.keys, rq_len HQK.out]; omega) (by rw [rq_len HQK.out]; exact size_req) (rq_one rfl rfl) ?_
      intro ws hbs hgs hss
      have HZ2 := hide (show ReqB ws g6 QQ (.slice none 0 0) (.slice none 0 0) from ⟨(by rw [lset_all _ _ (by rw [rq_len HZ.out.keys, rq_len HQK.out])] at hbs; exact hbs), HQK.out, rfl, rfl⟩)
      refine hK.out _ _ (hHeld.grown hgs hHeld.size (by intro k hk; injection hk; omega)) (fun hHeld => ?_)
      clear hK K hbs hgs hss
      try simp only [Act.put, List.setIfInBounds_toArray, List.set_cons_zero, List.set_cons_succ]
      refine wpAnyH_done (by kernel_rfl) ?_ _
      go_wp2_with fail
      go_meet
      exact ⟨_, rfl, HZ2.out, hHeld, hgz⟩
  obtain ⟨g6, rfl, hq6, hbel, hg6⟩ := hcut
  have HQ := hide hq6
  have HB := hide hbel
  replace HR := hide (HR.out.below hbel (by omega))
  have hz3 := hbel.size
  replace HW := hide (HW.out.trans (hbel.mono (by omega)))
  have hc3 := (hbel.cell (p := ⟨bb, oo + 3, none⟩) hbb).trans HC3.out
  obtain ⟨E, HE⟩ : ∃ E : Nat, Hid (getN x3 = E) := ⟨_, hide rfl⟩
  have hGet := Get_ref (.slice A3 4 c3) x3 _ ((HU3.out.below hbel (Nat.le_refl _)).more hbel.size) (HXX.out x3 (by simp)).1
  rw [show getF x3 = .tuple #[.int .i64 (E : Int), .bool true] by unfold getF; rw [if_pos (by rw [HN3.out]; omega), HE.out]] at hGet
  have HGET := hide hGet
  clear hq6 hbel hGet HK1 HK2 HK4 HBQ
  go_upto_region 6 with (first
    | (go_at_call 45; refine HGET.out.mono ?_; rintro e w5 ⟨rfl, rfl⟩)
    | (refine wpList_rq_putE _ _ rfl rfl rfl HQ.out _ rfl ?_; intro w6 hb6 hg6' hs6; replace HQ := hide hb6; replace HB := hide (HB.out.grown hg6' hz3 (by intro k hk; injection hk; omega)); replace HR := hide (HR.out.grown hg6' (by intro e; injection e; omega)); replace HW := hide (HW.out.grown hg6' (by omega) (by intro k hk; injection hk; omega)); clear hb6 hg6'))
  have hc5 := (HB.out.cell (p := ⟨bb, oo + 5, none⟩) hbb).trans HC5.out
  have hd5 := (HB.out.cell (p := ⟨b5, o5, none⟩) hb5).trans HD5.out
  obtain ⟨QE, HQE⟩ : ∃ q : Msg.Req, Hid (⟨K, x1, x2, E, x4, [], []⟩ = q) := ⟨_, hide rfl⟩
  replace HQ := hide (show ReqB _ g6 QE (.slice none 0 0) (.slice none 0 0) from by have := HQ.out; rw [← HQQ.out] at this; rw [← HQE.out]; exact this)
  have hQk : QE.kind = K := by rw [← HQE.out]
  have hQe : QE.ends = E := by rw [← HQE.out]
  have HKE := hide HQ.out.keys
  clear HQQ HQK
  go_upto_region 7 with fail
  clear hc5 hd5
  by_cases hk1 : QE.kind < 1
  · have HNR := hide (HOFF.out 0 (fun h => by have := h.kk.1; rw [HKK.out] at this; omega))
    clear hQk hQe
    go_wp2_with (first
      | go_skip
      | (refine wpList_rq_kind _ rfl rfl rfl HQ.out ?_)
      | (refine wpList_rq_ends _ rfl rfl rfl HQ.out ?_)
      | (refine wpList_st_build 31 _ rfl rfl (reqCells req0 (.slice none 0 0) (.slice none 0 0)) built_req0 ?_)
      | (refine wpList_rq_putAll _ _ rfl rfl rfl HR.out req0 (.slice none 0 0) (.slice none 0 0) rfl req0_keys rfl rfl ?_; intro w9 hb9 hg9 hs9; replace HR := hide hb9; replace HW := hide (HW.out.grown hg9 (by omega) (by intro k hk; injection hk; omega)); clear hb9 hg9)
      | (exact bodyPost_ret (results_st rfl _ _ g0 _ _ rfl HR.out.blk _ Tryd.underlying31 rfl size_req0 _ rfl) rfl (.inr ⟨HNR.out, rfl, by rw [HG.out]; exact HW.out⟩)))
  by_cases hk6 : 6 < QE.kind
  · have HNR := hide (HOFF.out 0 (fun h => by have := h.kk.2; rw [HKK.out] at this; omega))
    clear hQk hQe
    go_wp2_with (first
      | go_skip
      | (refine wpList_rq_kind _ rfl rfl rfl HQ.out ?_)
      | (refine wpList_rq_ends _ rfl rfl rfl HQ.out ?_)
      | (refine wpList_st_build 31 _ rfl rfl (reqCells req0 (.slice none 0 0) (.slice none 0 0)) built_req0 ?_)
      | (refine wpList_rq_putAll _ _ rfl rfl rfl HR.out req0 (.slice none 0 0) (.slice none 0 0) rfl req0_keys rfl rfl ?_; intro w9 hb9 hg9 hs9; replace HR := hide hb9; replace HW := hide (HW.out.grown hg9 (by omega) (by intro k hk; injection hk; omega)); clear hb9 hg9)
      | (exact bodyPost_ret (results_st rfl _ _ g0 _ _ rfl HR.out.blk _ Tryd.underlying31 rfl size_req0 _ rfl) rfl (.inr ⟨HNR.out, rfl, by rw [HG.out]; exact HW.out⟩)))
  by_cases hke : 1048576 < QE.ends
  · have HNR := hide (HOFF.out 0 (fun h => by have := h.ee; rw [HE.out] at this; omega))
    clear hQk hQe
    go_wp2_with (first
      | go_skip
      | (refine wpList_rq_kind _ rfl rfl rfl HQ.out ?_)
      | (refine wpList_rq_ends _ rfl rfl rfl HQ.out ?_)
      | (refine wpList_st_build 31 _ rfl rfl (reqCells req0 (.slice none 0 0) (.slice none 0 0)) built_req0 ?_)
      | (refine wpList_rq_putAll _ _ rfl rfl rfl HR.out req0 (.slice none 0 0) (.slice none 0 0) rfl req0_keys rfl rfl ?_; intro w9 hb9 hg9 hs9; replace HR := hide hb9; replace HW := hide (HW.out.grown hg9 (by omega) (by intro k hk; injection hk; omega)); clear hb9 hg9)
      | (exact bodyPost_ret (results_st rfl _ _ g0 _ _ rfl HR.out.blk _ Tryd.underlying31 rfl size_req0 _ rfl) rfl (.inr ⟨HNR.out, rfl, by rw [HG.out]; exact HW.out⟩)))
  by_cases hm32 : (32 : Int) < (m : Int)
  · have HNR := hide (HOFF.out 0 (fun h => by have := h.cc; rw [HCC5.out] at this; omega))
    clear hQk hQe
    go_wp2_with (first
      | go_skip
      | (refine wpList_rq_kind _ rfl rfl rfl HQ.out ?_)
      | (refine wpList_rq_ends _ rfl rfl rfl HQ.out ?_)
      | (refine wpList_st_build 31 _ rfl rfl (reqCells req0 (.slice none 0 0) (.slice none 0 0)) built_req0 ?_)
      | (refine wpList_rq_putAll _ _ rfl rfl rfl HR.out req0 (.slice none 0 0) (.slice none 0 0) rfl req0_keys rfl rfl ?_; intro w9 hb9 hg9 hs9; replace HR := hide hb9; replace HW := hide (HW.out.grown hg9 (by omega) (by intro k hk; injection hk; omega)); clear hb9 hg9)
      | (exact bodyPost_ret (results_st rfl _ _ g0 _ _ rfl HR.out.blk _ Tryd.underlying31 rfl size_req0 _ rfl) rfl (.inr ⟨HNR.out, rfl, by rw [HG.out]; exact HW.out⟩)))
  by_cases hlm : (L : Int) < 7 + 3 * (m : Int)
  · have HNR := hide (HOFF.out 0 (fun h => by have := h.rr; rw [HCC5.out, Int.toNat_natCast] at this; omega))
    clear hQk hQe
    go_wp2_with (first
      | go_skip
      | (refine wpList_rq_kind _ rfl rfl rfl HQ.out ?_)
      | (refine wpList_rq_ends _ rfl rfl rfl HQ.out ?_)
      | (refine wpList_st_build 31 _ rfl rfl (reqCells req0 (.slice none 0 0) (.slice none 0 0)) built_req0 ?_)
      | (refine wpList_rq_putAll _ _ rfl rfl rfl HR.out req0 (.slice none 0 0) (.slice none 0 0) rfl req0_keys rfl rfl ?_; intro w9 hb9 hg9 hs9; replace HR := hide hb9; replace HW := hide (HW.out.grown hg9 (by omega) (by intro k hk; injection hk; omega)); clear hb9 hg9)
      | (exact bodyPost_ret (results_st rfl _ _ g0 _ _ rfl HR.out.blk _ Tryd.underlying31 rfl size_req0 _ rfl) rfl (.inr ⟨HNR.out, rfl, by rw [HG.out]; exact HW.out⟩)))
  have HHD : Msg.HeadR b x0 x1 x2 x3 x4 x5 rest := ⟨by rw [HN.out]; omega, HN0.out, HN1.out, HN2.out, HN3.out, HN4.out, HN5.out, by rw [HKK.out]; omega, by rw [HE.out]; omega, by rw [HCC5.out]; omega, by rw [HCC5.out, Int.toNat_natCast]; omega⟩
  obtain ⟨ALL, HALL⟩ : ∃ a, Hid (Msg.testsB m rest = a) := ⟨_, hide rfl⟩
  have hr := HGO.out 0 HHD
  rw [HCC5.out, Int.toNat_natCast, HALL.out, HKK.out, HE.out] at hr
  have HNONE := hide (fun (_ : Nat) (h : ALL = none) => show r = none by rw [hr, h])
  have HSOME := hide (fun (_ : Nat) (ts : List Msg.Tst) (rest' : List (List Int)) (h : ALL = some (ts, rest')) => show r = (Msg.takeB rest').map fun bl => ⟨K, x1, x2, (E : Int), x4, ts, bl⟩ by rw [hr, h])
  have HT0 := hide (show Msg.TestsAt ALL [] m rest by rw [← HALL.out]; exact Msg.TestsAt.start m rest)
  have HRST := hide (fun (j : Nat) (hj : j < rest.length) => show ∃ u, w2.cell? ⟨bb, oo + (j + 6), none⟩ = some u ∧ Bs w2 w2.heap.size u rest[j] from HCC.out (j + 6) (by simp; omega))
  have HXR := hide (fun (j : Nat) (hj : j < rest.length) => show Bytes rest[j] ∧ rest[j].length ≤ 16384 from HXX.out _ (by simp))
  clear hr HHD HGO HOFF HCC hQk hQe
  go_wp2_with (first
    | go_skip
    | (refine wpList_rq_kind _ rfl rfl rfl HQ.out ?_)
    | (refine wpList_rq_ends _ rfl rfl rfl HQ.out ?_)
    | fail)
  have hz4 := HB.out.size
  have hz2' : g0 < w2.heap.size := by omega
  go_loopw [8] (fun v8 wr => ∃ (i : Nat) (l : List Msg.Tst) (vt : Value), v8 = .int .i64 (i : Int) ∧ i ≤ m ∧ l.length = i ∧ ReqB wr g6 QE vt (.slice none 0 0) ∧ OwnTsts wr w2.heap.size vt l ∧ ReqB wr g0 req0 (.slice none 0 0) (.slice none 0 0) ∧ Below w2.heap.size w2 wr ∧ Below g0 w wr ∧ Msg.TestsAt ALL l (m - i) (rest.drop (3 * i))) (fun v8 _ => m - (intOf v8).toNat)
  case atStart => exact ⟨0, [], _, by go_num, by omega, rfl, HQ.out, OwnTsts.nil_ _ _, HR.out, HB.out, HW.out, HT0.out⟩
  case round =>
    obtain ⟨i, l, vt, rfl, him, hll, hq, ho, hr, hb, hw, ht⟩ := hrel
    clear HQ HR HB HW HT0
    have HQ := hide hq
    have HO := hide ho
    have HR := hide hr
    have HB := hide hb
    have HW := hide hw
    have HL := hide hll
    have HT := hide ht
    have hwr := hb.size
    have hg6r := hq.lt
    clear hq ho hr hb hw hll ht
    by_cases hlt : i < m
    · have hlt' : (i : Int) < (m : Int) := by omega
      have hi3 : 3 * i + 2 < rest.length := by omega
      obtain ⟨ua, hca, hua⟩ := HRST.out (3 * i) (by omega)
      obtain ⟨ux, hcx, hux⟩ := HRST.out (3 * i + 1) (by omega)
      obtain ⟨uw, hcw, huw⟩ := HRST.out (3 * i + 2) (by omega)
      have HBA := hide (HXR.out (3 * i) (by omega)).1
      have HBX := hide (HXR.out (3 * i + 1) (by omega)).1
      have HBW := hide (HXR.out (3 * i + 2) (by omega)).1
      have HTT := HT
      rw [show m - i = (m - (i + 1)) + 1 by omega, Msg.drop3 rest (3 * i) hi3] at HTT
      generalize rest[3 * i] = xa at *
      generalize rest[3 * i + 1] = xx at *
      generalize rest[3 * i + 2] = xw at *
      obtain ⟨Aa, ca, rfl, _, _, _⟩ := hua.open_
      obtain ⟨Ax, cx, rfl, _, _, _⟩ := hux.open_
      obtain ⟨Aw, cw, rfl, _, _, _⟩ := huw.open_
      obtain ⟨na, HNA⟩ : ∃ n, Hid (xa.length = n) := ⟨_, hide rfl⟩
      obtain ⟨nx, HNX⟩ : ∃ n, Hid (xx.length = n) := ⟨_, hide rfl⟩
      obtain ⟨nw, HNW⟩ : ∃ n, Hid (xw.length = n) := ⟨_, hide rfl⟩
      rw [HNA.out] at hca hua
      rw [HNX.out] at hcx hux
      rw [HNW.out] at hcw huw
      have hbw : bb < wr.heap.size := by omega
      have HA1 := hide (show wr.cell? ⟨bb, oo + (6 + 3 * i), none⟩ = some (.slice Aa na ca) from (HB.out.cell (p := ⟨bb, oo + (6 + 3 * i), none⟩) hbb).trans (by rw [show 6 + 3 * i = 3 * i + 6 by omega]; exact hca))
      have HX1 := hide (show wr.cell? ⟨bb, oo + (7 + 3 * i), none⟩ = some (.slice Ax nx cx) from (HB.out.cell (p := ⟨bb, oo + (7 + 3 * i), none⟩) hbb).trans (by rw [show 7 + 3 * i = 3 * i + 1 + 6 by omega]; exact hcx))
      have HW1 := hide (show wr.cell? ⟨bb, oo + (8 + 3 * i), none⟩ = some (.slice Aw nw cw) from (HB.out.cell (p := ⟨bb, oo + (8 + 3 * i), none⟩) hbb).trans (by rw [show 8 + 3 * i = 3 * i + 2 + 6 by omega]; exact hcw))
      have HUA := hide hua
      have HUX := hide hux
      have HUW := hide huw
      clear hca hcx hcw hua hux huw
      go_upto_region 12 with fail
      refine wp_region_qw (Below wr.heap.size wr) (by kernel_rfl) (by kernel_rfl) (Below.refl _ _).drew ?_
      refine qw_val (v := .slice (some ⟨bb, oo, none⟩) L cr) 138 rfl (by kernel_rfl) (fun w' hS => exec_move _ rfl (.slice (some ⟨bb, oo, none⟩) L cr) rfl) ?_
      simp only [Act.put, List.setIfInBounds_toArray, List.set_cons_zero, List.set_cons_succ]
      refine qw_val (v := .int .i64 ((i : Int))) 139 rfl (by kernel_rfl) (fun w' hS => exec_move _ rfl (.int .i64 ((i : Int))) rfl) ?_
      simp only [Act.put, List.setIfInBounds_toArray, List.set_cons_zero, List.set_cons_succ]
      refine qw_val (v := .int .i64 (((3 * i : Nat) : Int))) 140 rfl (by kernel_rfl) (fun w' hS => exec_mulG _ _ _ rfl _ _ _ rfl rfl (by omega) (by omega)) ?_
      simp only [Act.put, List.setIfInBounds_toArray, List.set_cons_zero, List.set_cons_succ]
      refine qw_val (v := .int .i64 (((6 + 3 * i : Nat) : Int))) 141 rfl (by kernel_rfl) (fun w' hS => exec_addG _ _ _ rfl _ _ _ rfl rfl (by omega) (by omega)) ?_
      simp only [Act.put, List.setIfInBounds_toArray, List.set_cons_zero, List.set_cons_succ]
      refine qw_val (v := .pointer (some ⟨bb, oo + (6 + 3 * i), none⟩)) 142 rfl (by kernel_rfl) (fun w' hS => exec_indexG _ _ _ rfl _ L cr bb oo 1 (6 + 3 * i) rfl rfl rfl (by omega) (by kernel_rfl) _ (by omega)) ?_
      simp only [Act.put, List.setIfInBounds_toArray, List.set_cons_zero, List.set_cons_succ]
      refine qw_val (v := .slice Aa na ca) 143 rfl (by kernel_rfl) (fun w' hS => exec_load_one _ _ rfl bb (oo + (6 + 3 * i)) rfl _ Tryd.underlying26 rfl _ ((hS.cell (p := ⟨bb, oo + (6 + 3 * i), none⟩) hbw).trans HA1.out)) ?_
      simp only [Act.put, List.setIfInBounds_toArray, List.set_cons_zero, List.set_cons_succ]
      refine qw_val (v := .slice (some ⟨bb, oo, none⟩) L cr) 144 rfl (by kernel_rfl) (fun w' hS => exec_move _ rfl (.slice (some ⟨bb, oo, none⟩) L cr) rfl) ?_
      simp only [Act.put, List.setIfInBounds_toArray, List.set_cons_zero, List.set_cons_succ]
      refine qw_val (v := .int .i64 ((i : Int))) 145 rfl (by kernel_rfl) (fun w' hS => exec_move _ rfl (.int .i64 ((i : Int))) rfl) ?_
      simp only [Act.put, List.setIfInBounds_toArray, List.set_cons_zero, List.set_cons_succ]
      refine qw_val (v := .int .i64 (((3 * i : Nat) : Int))) 146 rfl (by kernel_rfl) (fun w' hS => exec_mulG _ _ _ rfl _ _ _ rfl rfl (by omega) (by omega)) ?_
      simp only [Act.put, List.setIfInBounds_toArray, List.set_cons_zero, List.set_cons_succ]
      refine qw_val (v := .int .i64 (((7 + 3 * i : Nat) : Int))) 147 rfl (by kernel_rfl) (fun w' hS => exec_addG _ _ _ rfl _ _ _ rfl rfl (by omega) (by omega)) ?_
      simp only [Act.put, List.setIfInBounds_toArray, List.set_cons_zero, List.set_cons_succ]
      refine qw_val (v := .pointer (some ⟨bb, oo + (7 + 3 * i), none⟩)) 148 rfl (by kernel_rfl) (fun w' hS => exec_indexG _ _ _ rfl _ L cr bb oo 1 (7 + 3 * i) rfl rfl rfl (by omega) (by kernel_rfl) _ (by omega)) ?_
      simp only [Act.put, List.setIfInBounds_toArray, List.set_cons_zero, List.set_cons_succ]
      refine qw_val (v := .slice Ax nx cx) 149 rfl (by kernel_rfl) (fun w' hS => exec_load_one _ _ rfl bb (oo + (7 + 3 * i)) rfl _ Tryd.underlying26 rfl _ ((hS.cell (p := ⟨bb, oo + (7 + 3 * i), none⟩) hbw).trans HX1.out)) ?_
      simp only [Act.put, List.setIfInBounds_toArray, List.set_cons_zero, List.set_cons_succ]
      refine qw_val (v := .slice (some ⟨bb, oo, none⟩) L cr) 150 rfl (by kernel_rfl) (fun w' hS => exec_move _ rfl (.slice (some ⟨bb, oo, none⟩) L cr) rfl) ?_
      simp only [Act.put, List.setIfInBounds_toArray, List.set_cons_zero, List.set_cons_succ]
      refine qw_val (v := .int .i64 ((i : Int))) 151 rfl (by kernel_rfl) (fun w' hS => exec_move _ rfl (.int .i64 ((i : Int))) rfl) ?_
      simp only [Act.put, List.setIfInBounds_toArray, List.set_cons_zero, List.set_cons_succ]
      refine qw_val (v := .int .i64 (((3 * i : Nat) : Int))) 152 rfl (by kernel_rfl) (fun w' hS => exec_mulG _ _ _ rfl _ _ _ rfl rfl (by omega) (by omega)) ?_
      simp only [Act.put, List.setIfInBounds_toArray, List.set_cons_zero, List.set_cons_succ]
      refine qw_val (v := .int .i64 (((8 + 3 * i : Nat) : Int))) 153 rfl (by kernel_rfl) (fun w' hS => exec_addG _ _ _ rfl _ _ _ rfl rfl (by omega) (by omega)) ?_
      simp only [Act.put, List.setIfInBounds_toArray, List.set_cons_zero, List.set_cons_succ]
      refine qw_val (v := .pointer (some ⟨bb, oo + (8 + 3 * i), none⟩)) 154 rfl (by kernel_rfl) (fun w' hS => exec_indexG _ _ _ rfl _ L cr bb oo 1 (8 + 3 * i) rfl rfl rfl (by omega) (by kernel_rfl) _ (by omega)) ?_
      simp only [Act.put, List.setIfInBounds_toArray, List.set_cons_zero, List.set_cons_succ]
      refine qw_val (v := .slice Aw nw cw) 155 rfl (by kernel_rfl) (fun w' hS => exec_load_one _ _ rfl bb (oo + (8 + 3 * i)) rfl _ Tryd.underlying26 rfl _ ((hS.cell (p := ⟨bb, oo + (8 + 3 * i), none⟩) hbw).trans HW1.out)) ?_
      simp only [Act.put, List.setIfInBounds_toArray, List.set_cons_zero, List.set_cons_succ]
      refine qw_val (v := .slice Aa na ca) 9 rfl (by kernel_rfl) (fun w' hS => exec_assign _ rfl (.slice Aa na ca) rfl) ?_
      simp only [Act.put, List.setIfInBounds_toArray, List.set_cons_zero, List.set_cons_succ]
      refine qw_val (v := .slice Ax nx cx) 10 rfl (by kernel_rfl) (fun w' hS => exec_assign _ rfl (.slice Ax nx cx) rfl) ?_
      simp only [Act.put, List.setIfInBounds_toArray, List.set_cons_zero, List.set_cons_succ]
      refine qw_val (v := .slice Aw nw cw) 11 rfl (by kernel_rfl) (fun w' hS => exec_assign _ rfl (.slice Aw nw cw) rfl) ?_
      simp only [Act.put, List.setIfInBounds_toArray, List.set_cons_zero, List.set_cons_succ]
      refine qw_nil ?_
      intro wq hS
      replace HQ := hide (HQ.out.below hS HQ.out.lt)
      replace HO := hide (HO.out.keptB hS)
      replace HR := hide (HR.out.below hS HR.out.lt)
      replace HB := hide (HB.out.trans (hS.mono hwr))
      replace HW := hide (HW.out.trans (hS.mono (by omega)))
      have hwq : w2.heap.size ≤ wq.heap.size := HB.out.size
      have hg6q : g6 < wq.heap.size := HQ.out.lt
      clear hS HA1 HX1 HW1
      go_upto_region 13 with fail
      by_cases hna : na = 1
      case neg =>
        have HNR := hide (HNONE.out 0 (HTT.out.stop (fun h => hna (by rw [← HNA.out]; exact h.1))))
        have hq : ((na : Int) != 1) = true := by simp; omega
        go_wp2_with (first
          | go_skip
          | go_guarded
          | (refine wpList_st_build 31 _ rfl rfl (reqCells req0 (.slice none 0 0) (.slice none 0 0)) built_req0 ?_)
          | (refine wpList_rq_putAll _ _ rfl rfl rfl HR.out req0 (.slice none 0 0) (.slice none 0 0) rfl req0_keys rfl rfl ?_; intro w9 hb9 hg9 hs9; replace HR := hide hb9; replace HW := hide (HW.out.grown hg9 (by omega) (by intro k hk; injection hk; omega)); clear hb9 hg9)
          | (exact bodyPost_ret (results_st rfl _ _ g0 _ _ rfl HR.out.blk _ Tryd.underlying31 rfl size_req0 _ rfl) rfl (.inr ⟨HNR.out, rfl, by rw [HG.out]; exact HW.out⟩)))
      obtain ⟨ba, oa, rfl, hba, _, hda, hA0, hA1⟩ := bs_one (x := xa) HUA.out (by rw [HNA.out]; exact hna) HBA.out
      obtain ⟨XA, HXA⟩ : ∃ K, Hid (xa.getD 0 0 = K) := ⟨_, hide rfl⟩
      rw [HXA.out] at hda hA0 hA1
      subst hna
      replace hda := (HB.out.cell (p := ⟨ba, oa, none⟩) hba).trans hda
      by_cases hxa : ¬ 16 ≤ XA
      case neg =>
        have HNR := hide (HNONE.out 0 (HTT.out.stop (fun h => hxa (by have := h.2.1; rw [HXA.out] at this; omega))))
        have hxa' : 16 ≤ XA := by omega
        clear hxa
        go_wp2_with (first
          | go_skip
          | go_guarded
          | (refine wpList_st_build 31 _ rfl rfl (reqCells req0 (.slice none 0 0) (.slice none 0 0)) built_req0 ?_)
          | (refine wpList_rq_putAll _ _ rfl rfl rfl HR.out req0 (.slice none 0 0) (.slice none 0 0) rfl req0_keys rfl rfl ?_; intro w9 hb9 hg9 hs9; replace HR := hide hb9; replace HW := hide (HW.out.grown hg9 (by omega) (by intro k hk; injection hk; omega)); clear hb9 hg9)
          | (exact bodyPost_ret (results_st rfl _ _ g0 _ _ rfl HR.out.blk _ Tryd.underlying31 rfl size_req0 _ rfl) rfl (.inr ⟨HNR.out, rfl, by rw [HG.out]; exact HW.out⟩)))
      by_cases hnx : nx = 1
      case neg =>
        have HNR := hide (HNONE.out 0 (HTT.out.stop (fun h => hnx (by rw [← HNX.out]; exact h.2.2.1))))
        have hq : ((nx : Int) != 1) = true := by simp; omega
        go_wp2_with (first
          | go_skip
          | go_guarded
          | (refine wpList_st_build 31 _ rfl rfl (reqCells req0 (.slice none 0 0) (.slice none 0 0)) built_req0 ?_)
          | (refine wpList_rq_putAll _ _ rfl rfl rfl HR.out req0 (.slice none 0 0) (.slice none 0 0) rfl req0_keys rfl rfl ?_; intro w9 hb9 hg9 hs9; replace HR := hide hb9; replace HW := hide (HW.out.grown hg9 (by omega) (by intro k hk; injection hk; omega)); clear hb9 hg9)
          | (exact bodyPost_ret (results_st rfl _ _ g0 _ _ rfl HR.out.blk _ Tryd.underlying31 rfl size_req0 _ rfl) rfl (.inr ⟨HNR.out, rfl, by rw [HG.out]; exact HW.out⟩)))
      obtain ⟨bx, ox, rfl, hbx, _, hdx, hX0, hX1⟩ := bs_one (x := xx) HUX.out (by rw [HNX.out]; exact hnx) HBX.out
      obtain ⟨XX, HXX⟩ : ∃ K, Hid (xx.getD 0 0 = K) := ⟨_, hide rfl⟩
      rw [HXX.out] at hdx hX0 hX1
      subst hnx
      replace hdx := (HB.out.cell (p := ⟨bx, ox, none⟩) hbx).trans hdx
      by_cases hxx : ¬ 1 < XX
      case neg =>
        have HNR := hide (HNONE.out 0 (HTT.out.stop (fun h => hxx (by have := h.2.2.2.1; rw [HXX.out] at this; omega))))
        have hxx' : 1 < XX := by omega
        clear hxx
        go_wp2_with (first
          | go_skip
          | go_guarded
          | (refine wpList_st_build 31 _ rfl rfl (reqCells req0 (.slice none 0 0) (.slice none 0 0)) built_req0 ?_)
          | (refine wpList_rq_putAll _ _ rfl rfl rfl HR.out req0 (.slice none 0 0) (.slice none 0 0) rfl req0_keys rfl rfl ?_; intro w9 hb9 hg9 hs9; replace HR := hide hb9; replace HW := hide (HW.out.grown hg9 (by omega) (by intro k hk; injection hk; omega)); clear hb9 hg9)
          | (exact bodyPost_ret (results_st rfl _ _ g0 _ _ rfl HR.out.blk _ Tryd.underlying31 rfl size_req0 _ rfl) rfl (.inr ⟨HNR.out, rfl, by rw [HG.out]; exact HW.out⟩)))
      by_cases hnw : nw = 32
      case neg =>
        have HNR := hide (HNONE.out 0 (HTT.out.stop (fun h => hnw (by rw [← HNW.out]; exact h.2.2.2.2.1))))
        have hq : ((nw : Int) != 32) = true := by simp; omega
        go_wp2_with (first
          | go_skip
          | go_guarded
          | (refine wpList_st_build 31 _ rfl rfl (reqCells req0 (.slice none 0 0) (.slice none 0 0)) built_req0 ?_)
          | (refine wpList_rq_putAll _ _ rfl rfl rfl HR.out req0 (.slice none 0 0) (.slice none 0 0) rfl req0_keys rfl rfl ?_; intro w9 hb9 hg9 hs9; replace HR := hide hb9; replace HW := hide (HW.out.grown hg9 (by omega) (by intro k hk; injection hk; omega)); clear hb9 hg9)
          | (exact bodyPost_ret (results_st rfl _ _ g0 _ _ rfl HR.out.blk _ Tryd.underlying31 rfl size_req0 _ rfl) rfl (.inr ⟨HNR.out, rfl, by rw [HG.out]; exact HW.out⟩)))
      obtain ⟨bw, ow, rfl, hbw2, hcw⟩ := bs_n HUW.out HNW.out (by omega)
      subst hnw
      have HCW := hide hcw
      clear hcw
      obtain ⟨q, HQB⟩ : ∃ q, Hid ((XX == 1) = q) := ⟨_, hide rfl⟩
      go_upto_region 15 with (first | go_skip | go_guarded)
      have HDA := hide hda
      have HDX := hide hdx
      clear hda hdx
      have hbaq : ba < wq.heap.size := by omega
      have hbxq : bx < wq.heap.size := by omega
      refine wp_region_held_drew (S := fun w' => Below wq.heap.size wq w') (by kernel_rfl) (Below.refl _ _).drew (fun hHeld => ?_)
      refine take_d 182 (i := 0) (v := .slice (some ⟨ba, oa, none⟩) 1 ca) rfl (by kernel_rfl) (by kernel_rfl) (by kernel_rfl) (by kernel_rfl) (fun _ _ _ h => h) (Or.inl ⟨by kernel_rfl, fun w' hS => exec_move _ rfl (.slice (some ⟨ba, oa, none⟩) 1 ca) rfl⟩) hHeld ?_
      try simp only [Act.put, List.setIfInBounds_toArray, List.set_cons_zero, List.set_cons_succ]
      refine take_d 183 (i := 1) (v := .pointer (some ⟨ba, oa, none⟩)) rfl (by kernel_rfl) (by kernel_rfl) (by kernel_rfl) (by kernel_rfl) (fun _ _ _ h => h) (Or.inl ⟨by kernel_rfl, fun w' hS => exec_indexG _ _ _ rfl _ 1 ca ba oa 1 0 rfl rfl rfl (by omega) (by kernel_rfl) _ (by omega)⟩) hHeld ?_
      try simp only [Act.put, List.setIfInBounds_toArray, List.set_cons_zero, List.set_cons_succ]
      refine take_d 184 (i := 2) (v := .int .u8 (XA)) rfl (by kernel_rfl) (by kernel_rfl) (by kernel_rfl) (by kernel_rfl) (fun _ _ _ h => h) (Or.inl ⟨by kernel_rfl, fun w' hS => exec_load_one _ _ rfl ba oa rfl _ Tryd.underlying5 rfl _ ((hS.cell (p := ⟨ba, oa, none⟩) hbaq).trans HDA.out)⟩) hHeld ?_
      try simp only [Act.put, List.setIfInBounds_toArray, List.set_cons_zero, List.set_cons_succ]
      refine take_d 185 (i := 3) (v := .int .i64 XA) rfl (by kernel_rfl) (by kernel_rfl) (by kernel_rfl) (by kernel_rfl) (fun _ _ _ h => h) (Or.inl ⟨by kernel_rfl, fun w' hS => exec_u8_int _ _ rfl rfl (by omega) (by omega)⟩) hHeld ?_
      try simp only [Act.put, List.setIfInBounds_toArray, List.set_cons_zero, List.set_cons_succ]
      refine take_d 186 (i := 4) (v := .slice (some ⟨bx, ox, none⟩) 1 cx) rfl (by kernel_rfl) (by kernel_rfl) (by kernel_rfl) (by kernel_rfl) (fun _ _ _ h => h) (Or.inl ⟨by kernel_rfl, fun w' hS => exec_move _ rfl (.slice (some ⟨bx, ox, none⟩) 1 cx) rfl⟩) hHeld ?_
      try simp only [Act.put, List.setIfInBounds_toArray, List.set_cons_zero, List.set_cons_succ]
      refine take_d 187 (i := 5) (v := .pointer (some ⟨bx, ox, none⟩)) rfl (by kernel_rfl) (by kernel_rfl) (by kernel_rfl) (by kernel_rfl) (fun _ _ _ h => h) (Or.inl ⟨by kernel_rfl, fun w' hS => exec_indexG _ _ _ rfl _ 1 cx bx ox 1 0 rfl rfl rfl (by omega) (by kernel_rfl) _ (by omega)⟩) hHeld ?_
      try simp only [Act.put, List.setIfInBounds_toArray, List.set_cons_zero, List.set_cons_succ]
      refine take_d 188 (i := 6) (v := .int .u8 (XX)) rfl (by kernel_rfl) (by kernel_rfl) (by kernel_rfl) (by kernel_rfl) (fun _ _ _ h => h) (Or.inl ⟨by kernel_rfl, fun w' hS => exec_load_one _ _ rfl bx ox rfl _ Tryd.underlying5 rfl _ ((hS.cell (p := ⟨bx, ox, none⟩) hbxq).trans HDX.out)⟩) hHeld ?_
      try simp only [Act.put, List.setIfInBounds_toArray, List.set_cons_zero, List.set_cons_succ]
      refine take_d 189 (i := 7) (v := .bool q) rfl (by kernel_rfl) (by kernel_rfl) (by kernel_rfl) (by kernel_rfl) (fun _ _ _ h => h) (Or.inl ⟨by kernel_rfl, fun w' hS => exec_eql_u8 _ _ _ _ rfl XX 1 rfl rfl _ HQB.out⟩) hHeld ?_
      try simp only [Act.put, List.setIfInBounds_toArray, List.set_cons_zero, List.set_cons_succ]
      refine take_d 190 (i := 8) (v := .agg (tstC ⟨XA, q, List.replicate 32 0⟩).toArray) rfl (by kernel_rfl) (by kernel_rfl) (by kernel_rfl) (by kernel_rfl) (fun _ _ _ h => h) (Or.inl ⟨by kernel_rfl, fun w' hS => (exec_build2 _ _ _ _ _ rfl _ _ rfl rfl _ (built_tst2 XA q))⟩) hHeld ?_
      try simp only [Act.put, List.setIfInBounds_toArray, List.set_cons_zero, List.set_cons_succ]
      refine wpAnyH_ready (rs := [9]) (by kernel_rfl) (by simp) (AllReadyH.cons rfl (fun K hK => ?_) AllReadyH.nil)
      rw [if_pos (by kernel_rfl)]
      refine wp_alloc_blkG 60 12 rfl rfl _ zero_tst ?_
      intro g12 w12 hg12 hb12 hw12
      have HK := hide hb12
      have HX := hide (hHeld.trans (hw12.mono hHeld.size))
      have hg12q : wq.heap.size ≤ g12 := by have := hHeld.size; omega
      clear hb12 hw12
      refine hK.out _ _ HX.out (fun hHeld => ?_)
      clear HX hK K
      try simp only [Act.put, List.setIfInBounds_toArray, List.set_cons_zero, List.set_cons_succ]
      refine wpAnyH_ready (rs := [10]) (by kernel_rfl) (by simp) (AllReadyH.cons rfl (fun K hK => ?_) AllReadyH.nil)
      rw [if_pos (by kernel_rfl)]
      refine wp_store_blkD 60 _ _ rfl rfl g12 0 (tstC ⟨XA, q, List.replicate 32 0⟩) rfl rfl _ _ HK.out (by rw [tst_len (by simp), tst_len (by simp)]; omega) (by rw [tst_len (by simp)]; exact size_tst) (tst_ones _) ?_
      intro ws hbs hgs hss
      have HK2 := hide (show Blk ws g12 60 (tstC ⟨XA, q, List.replicate 32 0⟩) from (by rw [lset_all _ _ (by rw [tst_len (by simp), tst_len (by simp)])] at hbs; exact hbs))
      refine hK.out _ _ (hHeld.grown hgs hHeld.size (by intro k hk; injection hk; omega)) (fun hHeld => ?_)
      clear hK K hbs hgs hss
      try simp only [Act.put, List.setIfInBounds_toArray, List.set_cons_zero, List.set_cons_succ]
      refine wpAnyH_done (by kernel_rfl) ?_ _
      go_wp2_with fail
      go_loopw [191] (fun v191 wi => ∃ k : Nat, v191 = .int .i64 (k : Int) ∧ k ≤ 32 ∧ Blk wi g12 60 (.int .i64 XA :: .bool q :: u8s (xw.take k ++ List.replicate (32 - k) 0)) ∧ Below wq.heap.size wq wi) (fun v191 _ => 32 - (intOf v191).toNat)
      case atStart => exact ⟨0, by go_num, by omega, HK2.out, hHeld⟩
      case round =>
        obtain ⟨k, rfl, hk32, hkb, hbel⟩ := hrel
        clear HK HK2 hHeld
        have HK := hide hkb
        have HS := hide hbel
        have hzi := hbel.size
        clear hkb hbel
        by_cases hkl : k < 32
        · have hkl1 : (k : Int) < 32 := by omega
          obtain ⟨y, HY⟩ : ∃ y, Hid (xw.getD k 0 = y) := ⟨_, hide rfl⟩
          have hbwq : bw < wq.heap.size := by omega
          have HCE := hide ((HS.out.cell (p := ⟨bw, ow + k, none⟩) hbwq).trans ((HB.out.cell (p := ⟨bw, ow + k, none⟩) hbw2).trans ((HCW.out k hkl).trans (show _ = some (.int .u8 y) by rw [HY.out]))))
          have HLT := hide (show (Value.int .i64 XA :: .bool q :: u8s (xw.take k ++ List.replicate (32 - k) 0)).length = 34 by simp [u8s_len, HNW.out]; omega)
          have HF := hide (fill_tst (.int .i64 XA) (.bool q) xw k HNW.out hkl y HY.out)
          go_wp2_with (first
            | (refine wpList_val rfl (exec_load_one _ _ rfl bw (ow + k) rfl _ Tryd.underlying5 rfl _ HCE.out) ?_)
            | (refine wpList_st_put 5 _ _ rfl (2 + k) rfl rfl HK.out (by rw [HLT.out]; omega) (.int .u8 y) rfl rfl size_u8' ?_; intro w5 hb5 hg5 hs5; rw [HF.out] at hb5; replace HK := hide hb5; replace HS := hide (HS.out.grown hg5 (by omega) (by intro k hk; injection hk; omega)); clear hb5 hg5))
          exact ⟨⟨k + 1, rfl, by omega, HK.out, HS.out⟩, by show 32 - ((k : Int) + 1).toNat < 32 - (k : Int).toNat; omega⟩
        obtain rfl : k = 32 := by omega
        have hkl1 : ¬ ((32 : Nat) : Int) < 32 := by omega
        replace HK := hide (show Blk _ g12 60 (tstC ⟨XA, q, xw⟩) from by have := HK.out; rw [Nat.sub_self, List.replicate_zero, List.append_nil, List.take_of_length_le (by rw [HNW.out]; omega)] at this; exact this)
        replace HQ := hide (HQ.out.below HS.out HQ.out.lt)
        replace HO := hide (HO.out.keptB HS.out)
        replace HR := hide (HR.out.below HS.out HR.out.lt)
        replace HB := hide (HB.out.trans (HS.out.mono hwq))
        replace HW := hide (HW.out.trans (HS.out.mono (by omega)))
        have HTL := hide (tst_len (t := ⟨XA, q, xw⟩) HNW.out)
        have HWR := hide (tst_want HK.out)
        obtain ⟨q2, HQ2⟩ : ∃ x, Hid ((!decide (xw = List.replicate 32 0)) = x) := ⟨_, hide rfl⟩
        clear HS HDA HDX HCW
        have hlw := HW.out.size
        have hlb := HB.out.size
        rcases q with _ | _
        case false =>
          go_wp2_with (first
            | go_skip
            | (refine wpList_st_get 4 _ rfl 1 rfl rfl HK.out _ Tryd.underlying4 rfl _ rfl ?_)
            | go_guarded
            | (refine wpList_rq_tests _ rfl rfl rfl HQ.out ?_)
            | (refine wpList_st_all 60 _ rfl rfl rfl HK.out _ Tryd.underlying60 rfl (by rw [HTL.out]; exact size_tst) ?_)
            | (refine wpList_lit_tst rfl _ rfl ⟨XA, false, xw⟩ HNW.out rfl ?_)
            | (at_builtin; refine wpList_append_tst rfl _ _ rfl w2.heap.size vt l rfl HO.out (by omega) (by have := HL.out; omega) ⟨XA, false, xw⟩ HNW.out rfl ?_; intro v64 wB hoB hbzB hwB; obtain ⟨w1B, hb1B, hgB, hoB1⟩ := hwB; have HO2 := hide hoB; replace HQ := hide ((HQ.out.below hb1B HQ.out.lt).grown hgB (own_ne_blk hoB1.1 (HQ.out.below hb1B HQ.out.lt).blk (by decide))); replace HR := hide ((HR.out.below hb1B HR.out.lt).grown hgB (own_ne_blk hoB1.1 (HR.out.below hb1B HR.out.lt).blk (by decide))); replace HB := hide ((HB.out.trans (hb1B.mono (by omega))).grown hgB (by have := hb1B.size; omega) (fun k hk => (hbzB k hk).1)); replace HW := hide ((HW.out.trans (hb1B.mono (by omega))).grown hgB (by have := hb1B.size; omega) (fun k hk => by have := (hbzB k hk).1; omega)); have HV64 := hide hoB.one; clear hoB hbzB hb1B hgB hoB1)
            | (refine wpList_rq_putT _ _ rfl rfl rfl HQ.out _ rfl HV64.out ?_; intro wC hbC hgC hsC; have hg6C := HQ.out; replace HO2 := hide (HO2.out.past HQ.out.blk (by decide) hgC); replace HQ := hide hbC; replace HR := hide (HR.out.grown hgC (by intro e; injection e; omega)); replace HB := hide (HB.out.grown hgC (by have := HB.out.size; omega) (by intro k hk; injection hk; omega)); replace HW := hide (HW.out.grown hgC (by have := HW.out.size; omega) (by intro k hk; injection hk; omega)); clear hbC hgC hsC))
          refine ⟨⟨i + 1, l ++ [⟨XA, false, xw⟩], v64, rfl, by omega, by rw [List.length_append, HL.out]; rfl, HQ.out, HO2.out, HR.out, HB.out, HW.out, ?_⟩, by show m - ((i : Int) + 1).toNat < m - (i : Int).toNat; omega⟩
          have hst := HTT.out.step ⟨HNA.out, by rw [HXA.out]; omega, HNX.out, by rw [HXX.out]; omega, HNW.out, fun h => by rw [HXX.out] at h; have := HQB.out; rw [h] at this; cases this⟩
          rw [HXA.out, HXX.out, HQB.out, show 3 * i + 3 = 3 * (i + 1) by omega] at hst
          exact hst
        rcases q2 with _ | _
        case false =>
          go_wp2_with (first
            | (refine wpList_st_get 4 _ rfl 1 rfl rfl HK.out _ Tryd.underlying4 rfl _ rfl ?_)
            | (refine wpList_val rfl (exec_loadAll 58 _ rfl g12 2 rfl _ (u8s xw) HWR.out Tryd.underlying58 rfl (by rw [u8s_len, HNW.out]; exact size_hash32)) ?_)
            | (refine wpList_st_build 58 #[] rfl rfl (u8s (List.replicate 32 0)) built_hash0 ?_)
            | (refine wpList_val rfl (exec_neq_hash _ _ _ rfl xw (List.replicate 32 0) rfl rfl HNW.out rfl false HQ2.out) ?_)
            | (refine wpList_rq_tests _ rfl rfl rfl HQ.out ?_)
            | (refine wpList_st_all 60 _ rfl rfl rfl HK.out _ Tryd.underlying60 rfl (by rw [HTL.out]; exact size_tst) ?_)
            | (refine wpList_lit_tst rfl _ rfl ⟨XA, true, xw⟩ HNW.out rfl ?_)
            | (at_builtin; refine wpList_append_tst rfl _ _ rfl w2.heap.size vt l rfl HO.out (by omega) (by have := HL.out; omega) ⟨XA, true, xw⟩ HNW.out rfl ?_; intro v64 wB hoB hbzB hwB; obtain ⟨w1B, hb1B, hgB, hoB1⟩ := hwB; have HO2 := hide hoB; replace HQ := hide ((HQ.out.below hb1B HQ.out.lt).grown hgB (own_ne_blk hoB1.1 (HQ.out.below hb1B HQ.out.lt).blk (by decide))); replace HR := hide ((HR.out.below hb1B HR.out.lt).grown hgB (own_ne_blk hoB1.1 (HR.out.below hb1B HR.out.lt).blk (by decide))); replace HB := hide ((HB.out.trans (hb1B.mono (by omega))).grown hgB (by have := hb1B.size; omega) (fun k hk => (hbzB k hk).1)); replace HW := hide ((HW.out.trans (hb1B.mono (by omega))).grown hgB (by have := hb1B.size; omega) (fun k hk => by have := (hbzB k hk).1; omega)); have HV64 := hide hoB.one; clear hoB hbzB hb1B hgB hoB1)
            | (refine wpList_rq_putT _ _ rfl rfl rfl HQ.out _ rfl HV64.out ?_; intro wC hbC hgC hsC; have hg6C := HQ.out; replace HO2 := hide (HO2.out.past HQ.out.blk (by decide) hgC); replace HQ := hide hbC; replace HR := hide (HR.out.grown hgC (by intro e; injection e; omega)); replace HB := hide (HB.out.grown hgC (by have := HB.out.size; omega) (by intro k hk; injection hk; omega)); replace HW := hide (HW.out.grown hgC (by have := HW.out.size; omega) (by intro k hk; injection hk; omega)); clear hbC hgC hsC))
          refine ⟨⟨i + 1, l ++ [⟨XA, true, xw⟩], v64, rfl, by omega, by rw [List.length_append, HL.out]; rfl, HQ.out, HO2.out, HR.out, HB.out, HW.out, ?_⟩, by show m - ((i : Int) + 1).toNat < m - (i : Int).toNat; omega⟩
          have hst := HTT.out.step ⟨HNA.out, by rw [HXA.out]; omega, HNX.out, by rw [HXX.out]; omega, HNW.out, fun _ => by have := HQ2.out; simpa [Msg.z32] using this⟩
          rw [HXA.out, HXX.out, HQB.out, show 3 * i + 3 = 3 * (i + 1) by omega] at hst
          exact hst
        case true =>
          have HNR := hide (HNONE.out 0 (HTT.out.stop (fun h => by have h1 := h.2.2.2.2.2 (by rw [HXX.out]; simpa using HQB.out); have := HQ2.out; rw [h1] at this; cases this)))
          go_wp2_with (first
            | fail
            | (refine wpList_st_get 4 _ rfl 1 rfl rfl HK.out _ Tryd.underlying4 rfl _ rfl ?_)
            | (refine wpList_val rfl (exec_loadAll 58 _ rfl g12 2 rfl _ (u8s xw) HWR.out Tryd.underlying58 rfl (by rw [u8s_len, HNW.out]; exact size_hash32)) ?_)
            | (refine wpList_st_build 58 #[] rfl rfl (u8s (List.replicate 32 0)) built_hash0 ?_)
            | (refine wpList_val rfl (exec_neq_hash _ _ _ rfl xw (List.replicate 32 0) rfl rfl HNW.out rfl true HQ2.out) ?_)
            | (refine wpList_st_build 31 _ rfl rfl (reqCells req0 (.slice none 0 0) (.slice none 0 0)) built_req0 ?_)
            | (refine wpList_rq_putAll _ _ rfl rfl rfl HR.out req0 (.slice none 0 0) (.slice none 0 0) rfl req0_keys rfl rfl ?_; intro w9 hb9 hg9 hs9; replace HR := hide hb9; replace HW := hide (HW.out.grown hg9 (by omega) (by intro k hk; injection hk; omega)); clear hb9 hg9)
            | (exact bodyPost_ret (results_st rfl _ _ g0 _ _ rfl HR.out.blk _ Tryd.underlying31 rfl size_req0 _ rfl) rfl (.inr ⟨HNR.out, rfl, by rw [HG.out]; exact HW.out⟩)))
    · obtain rfl : i = m := by omega
      have hlt' : ¬ (i : Int) < (i : Int) := by omega
      have hT := HT.out
      rw [Nat.sub_self] at hT
      have HSM := hide (HSOME.out 0 l _ hT.done)
      have hkL : 6 + 3 * i < L := by omega
      have hcrL : L ≤ cr := g1
      have HCUT := hide (show RowsB wr wr.heap.size (.slice (some ⟨bb, oo + (6 + 3 * i), none⟩) (L - (6 + 3 * i)) (cr - (6 + 3 * i))) (rest.drop (3 * i)) from by
        have h := ((HRO.out.below HB.out (Nat.le_refl _)).more HB.out.size).cutAt hkL rfl
        rw [show 6 + 3 * i = 3 * i + 6 by omega] at h ⊢
        exact h)
      have HSL := hide (show sliced (some ⟨bb, oo, none⟩) (6 + 3 * i) L cr 1 = .slice (some ⟨bb, oo + (6 + 3 * i), none⟩) (L - (6 + 3 * i)) (cr - (6 + 3 * i)) from by
        unfold sliced
        rw [if_neg (by omega)]
        simp [Addr.add])
      have HTK := hide (takeBlobs_refR _ (rest.drop (3 * i)) wr HCUT.out (fun x hx => HXX.out x (List.mem_cons_of_mem _ (List.mem_cons_of_mem _ (List.mem_cons_of_mem _ (List.mem_cons_of_mem _ (List.mem_cons_of_mem _ (List.mem_cons_of_mem _ (List.mem_of_mem_drop hx)))))))) (by rw [List.length_drop]; have := HLEN.out; omega))
      clear hT HSOME HNONE HRO HCUT HRST HXR
      go_wp2_with (first
        | (refine wpList_val rfl (v := .slice (some ⟨bb, oo + (6 + 3 * i), none⟩) (L - (6 + 3 * i)) (cr - (6 + 3 * i))) (by rw [← HSL.out]; exact exec_slice_from 72 26 1 Tryd.underlying72 (by kernel_rfl) _ _ rfl _ _ _ (6 + 3 * i) rfl (show Value.int .i64 (6 + 3 * (i : Int)) = .int .i64 ((6 + 3 * i : Nat) : Int) by push_cast; rfl) (by omega)) ?_))
      refine HTK.out.mono ?_
      rintro e w7 (⟨v7, l7, ht7, rfl, ho7, hb7⟩ | ⟨ht7, rfl, hb7⟩)
      case inr =>
        have hz7 := hb7.size
        have HNR := hide (show r = none by rw [HSM.out, ht7]; rfl)
        replace HR := hide (HR.out.below hb7 HR.out.lt)
        replace HQ := hide (HQ.out.below hb7 HQ.out.lt)
        replace HW := hide (HW.out.trans (hb7.mono (by omega)))
        have hlw := HW.out.size
        clear HTK hb7 ht7 HSM HSL
        go_wp2_with (first
          | go_skip
          | (refine wpList_rq_putB _ _ rfl rfl rfl HQ.out _ rfl rfl ?_; intro w8 hb8 hg8 hs8; replace HQ := hide hb8; replace HR := hide (HR.out.grown hg8 (by intro e; injection e; omega)); replace HW := hide (HW.out.grown hg8 (by omega) (by intro k hk; injection hk; omega)); clear hb8 hg8)
          | (refine wpList_st_build 31 _ rfl rfl (reqCells req0 (.slice none 0 0) (.slice none 0 0)) built_req0 ?_)
          | (refine wpList_rq_putAll _ _ rfl rfl rfl HR.out req0 (.slice none 0 0) (.slice none 0 0) rfl req0_keys rfl rfl ?_; intro w9 hb9 hg9 hs9; replace HR := hide hb9; replace HW := hide (HW.out.grown hg9 (by omega) (by intro k hk; injection hk; omega)); clear hb9 hg9)
          | (exact bodyPost_ret (results_st rfl _ _ g0 _ _ rfl HR.out.blk _ Tryd.underlying31 rfl size_req0 _ rfl) rfl (.inr ⟨HNR.out, rfl, by rw [HG.out]; exact HW.out⟩)))
      have hz7 := hb7.size
      obtain ⟨QF, HQF⟩ : ∃ q : Msg.Req, Hid (⟨K, x1, x2, E, x4, l, l7⟩ = q) := ⟨_, hide rfl⟩
      have HYR := hide (show r = some QF by rw [HSM.out, ht7, ← HQF.out]; rfl)
      have HTS := hide (show QF.tests = l by rw [← HQF.out])
      have HBS := hide (show QF.blobs = l7 by rw [← HQF.out])
      replace HQ := hide (show ReqB w7 g6 QF vt (.slice none 0 0) from by have := HQ.out.below hb7 HQ.out.lt; rw [← HQE.out] at this; rw [← HQF.out]; exact ⟨this.blk, ⟨this.keys.i, this.keys.s, this.keys.e⟩, this.oneT, this.oneB⟩)
      replace HR := hide (HR.out.below hb7 HR.out.lt)
      replace HO := hide (HO.out.keptB hb7)
      replace HW := hide (HW.out.trans (hb7.mono (by omega)))
      have HOB := hide ho7
      have HV7 := hide ho7.one
      have HVT := hide HO.out.one
      have HKF := hide HQ.out.keys
      have HSZ := hide (show (Tryd.prog.info? 31).map (·.size) = some (reqCells QF vt v7).length by rw [rq_len HKF.out]; exact size_req)
      have hlw := HW.out.size
      obtain ⟨base, HBA⟩ : ∃ k, Hid (wr.heap.size = k) := ⟨_, hide rfl⟩
      rw [HBA.out] at HOB
      have hba7 : base ≤ w7.heap.size := by have := HBA.out; omega
      clear HTK hb7 ht7 HSM HSL ho7
      go_wp2_with (first
        | go_skip
        | (refine wpList_rq_putB _ _ rfl rfl rfl HQ.out _ rfl HV7.out ?_; intro w8 hb8 hg8 hs8; replace HO := hide (HO.out.past HQ.out.blk (by decide) hg8); replace HOB := hide (HOB.out.past HQ.out.blk (by decide) (by decide) hg8); replace HQ := hide hb8; replace HR := hide (HR.out.grown hg8 (by intro e; injection e; omega)); replace HW := hide (HW.out.grown hg8 (by omega) (by intro k hk; injection hk; omega)); clear hb8 hg8)
        | (refine wpList_rq_all _ rfl rfl rfl HQ.out ?_)
        | (refine wpList_rq_putAll _ _ rfl rfl rfl HR.out QF vt v7 rfl HKF.out HVT.out HV7.out ?_; intro w9 hb9 hg9 hs9; replace HO := hide (HO.out.past HR.out.blk (by decide) hg9); replace HOB := hide (HOB.out.past HR.out.blk (by decide) (by decide) hg9); replace HR := hide hb9; replace HW := hide (HW.out.grown hg9 (by omega) (by intro k hk; injection hk; omega)); clear hb9 hg9)
        | (exact bodyPost_ret (results_st rfl _ _ g0 _ _ rfl HR.out.blk _ Tryd.underlying31 rfl HSZ.out _ rfl) rfl (.inl ⟨_, _, QF, HYR.out, rfl, HKF.out, by rw [HTS.out]; exact HO.out.reads, by rw [HBS.out]; exact HOB.out.toB.reads (by omega), by rw [HG.out]; exact HW.out⟩)))
end Go.Proofs.YtfinfkodjkfibaaDoor
