/-
MsgsSays holds: a reply's bytes, or that there are none; any bytes as a reply: the program answers as the document. Conditions: none but the row's own.
-/
import Derived.Test.YtfinfkodjkfibaaDoorMsgSayR
import Derived.Test.YtfinfkodjkfibaaDoorMsgSaidR
import Derived.Test.YtfinfkodjkfibaaDoorKeepBlobs
import Derived.Test.YtfinfkodjkfibaaDoorWakes17
import Derived.Test.YtfinfkodjkfibaaDoorReqAll
import Derived.Test.YtfinfkodjkfibaaDoorMsgFrame
import Derived.Test.YtfinfkodjkfibaaDoorMsgU
import Derived.Test.YtfinfkodjkfibaaDoorTied
namespace Go.Proofs.YtfinfkodjkfibaaDoor.LawMsgsSays
open Go Go.RowKit Go.ChangeShapes Go.WideShapes Go.ChangeAt
set_option linter.unusedVariables false
set_option linter.unusedSimpArgs false
set_option maxRecDepth 100000

set_option maxHeartbeats 16000000 in
theorem walk (w : World) (ht : Tab w w.heap.size) (r : Int × List Msg.Blb) (u : Value) (hin : In64 r.1 ∧ InB r.2) (hu : BlbsB w w.heap.size u r.2) (v : Value) (b : List Int) (hv : Bs w w.heap.size v b) (hb : Bytes b) :
    Calls Tryd.prog 3 #[.agg #[.int .i64 r.1, u], v] w fun e w' => e = .returned (.bool true) ∧ Below w.heap.size w w' := by
  obtain ⟨E, lb⟩ := r
  simp only at hin hu ⊢
  have HT := hide ht
  have HE := hide hin.1
  have HLB := hide hu
  have HIN := hide (cutB_in (k := 34) hin.2)
  have HBv := hide hv
  have HBY := hide (show Bytes (b.take 500) from fun x hx => hb x (List.mem_of_mem_take hx))
  have HBL := hide (show (b.take 500).length ≤ 500 by rw [List.length_take]; omega)
  obtain ⟨bc, HBC⟩ : ∃ x, Hid (b.take 500 = x) := ⟨_, hide rfl⟩
  have HCUT := hide (fun (w' : World) (h : Below w.heap.size w w') => cut_bytes v b 500 w' w.heap.size (hv.below h (Nat.le_refl _)) (by omega) (by omega))
  rw [show b.take (500 : Int).toNat = bc from HBC.out] at HCUT
  rw [HBC.out] at HBY HBL
  obtain ⟨A, cu, rfl, _, _, _⟩ := hu.open_
  obtain ⟨Av, cv, rfl, _, _, _⟩ := hv.open_
  obtain ⟨n, HN⟩ : ∃ x, Hid (lb.length = x) := ⟨_, hide rfl⟩
  obtain ⟨nb, HNB⟩ : ∃ x, Hid (b.length = x) := ⟨_, hide rfl⟩
  rw [HN.out] at HLB ⊢
  rw [HNB.out] at HCUT ⊢
  obtain ⟨g2, HG⟩ : ∃ k, Hid (w.heap.size = k) := ⟨_, hide rfl⟩
  obtain ⟨lc, HLC⟩ : ∃ x, Hid (cutB 34 lb = x) := ⟨_, hide rfl⟩
  rw [HLC.out] at HIN
  clear ht hin hu hv hb
  go_enter Tryd.func3, Tryd.ntmps3
  go_wp2_with (first
    | (refine wpList_st_box _ rfl [Value.int .i64 E, .slice A n cu] rfl rfl ?_; intro w1 hb1 hw1 hs1; rw [HG.out] at hb1; try rw [HG.out]; have H2 := hide hb1; have HB := hide hw1; clear hb1 hw1)
    | (refine wpList_st_get 23 _ rfl 1 rfl rfl H2.out _ Tryd.underlying23 rfl _ rfl ?_)
    | (refine wpList_st_build 31 _ rfl rfl (reqCells req0 (.slice none 0 0) (.slice A n cu)) (built_req6 A n cu) ?_))
  refine (request_any req0 (.slice none 0 0) (.slice A n cu) [] lb w1 req0_keys (TstsB.nil_ _ _) ((HLB.out.below HB.out (Nat.le_refl _)).more HB.out.size)).mono ?_
  rintro e w2 ⟨vt, vb, rfl, htt, hob, hb2⟩
  have HOB := hide (show OwnBlbs w2 w1.heap.size vb lc by rw [← HLC.out]; exact hob)
  have HTO := hide htt.one
  obtain ⟨A2, c2, rfl⟩ := hob.shape
  have hz1 := HB.out.size
  have hz2 := hb2.size
  have hg2 : g2 < w1.heap.size := H2.out.lt
  replace H2 := hide (H2.out.below hb2 H2.out.lt)
  replace HB := hide (HB.out.trans (hb2.mono HB.out.size))
  obtain ⟨m, HM⟩ : ∃ x, Hid (lc.length = x) := ⟨_, hide rfl⟩
  rw [show (cutB 34 lb).length = m by rw [HLC.out, HM.out]] at HOB ⊢
  have hwg : w.heap.size ≤ g2 ∧ g2 ≤ w.heap.size := by have := HG.out; omega
  clear htt hob hb2
  go_wp2_with (first
    | (refine wpList_rq_fieldB _ rfl req0_keys rfl rfl ?_)
    | (refine wpList_st_put 23 _ _ rfl 1 rfl rfl H2.out (by simp) (.slice A2 m c2) rfl rfl size_blobs ?_; intro w3 hb3 hg3 hs3; replace HOB := hide (HOB.out.past H2.out int_no slice_no hg3 hg2 hz2); replace H2 := hide (show Blk w3 g2 25 [.int .i64 E, .slice A2 m c2] from hb3); replace HB := hide (HB.out.grown hg3 (by omega) (by intro k hk; injection hk; omega)); clear hb3 hg3))
  refine (HCUT.out w3 HB.out).mono ?_
  rintro e w4 ⟨v1, rfl, hv1, rfl⟩
  have HLs := hide (HOB.out.reads (by omega))
  have HBs := hide (hv1.more HB.out.size)
  obtain ⟨A1, c1, rfl, _, _, _⟩ := hv1.open_
  obtain ⟨n1, HN1⟩ : ∃ x, Hid (bc.length = x) := ⟨_, hide rfl⟩
  rw [HN1.out] at HBs ⊢
  replace HT := hide ((HT.out.below HB.out (Nat.le_refl _)).more HB.out.size)
  have HCB := hide (fun x hx => show Bytes x.2 ∧ x.2.length ≤ 1000000 from ⟨(HIN.out x hx).1, by have := (HIN.out x hx).2.2; omega⟩)
  have HCI := hide (fun (x : Msg.Blb) (hx : x ∈ lc) => (HIN.out x hx).2.1)
  obtain ⟨sr, HSR⟩ : ∃ x, Hid (Msg.sayF E lc = x) := ⟨_, hide rfl⟩
  have HSL := hide (say_get_len HSR.out)
  have C1 := hide (fun (w' : World) (hl : BlbsB w' w'.heap.size (.slice A2 m c2) lc) (ht : Tab w' w'.heap.size) => (Say_any E (.slice A2 m c2) lc w' hl HCB.out HCI.out HE.out ht).mono (fun e w'' h => SayRes.u h))
  have C2 := hide (fun (w' : World) (hl : BlbsB w' w'.heap.size (.slice A2 m c2) lc) => (Say_ref E (.slice A2 m c2) lc w' hl HCB.out HCI.out HE.out).mono (fun e w'' h => SayRes.u h))
  rw [HSR.out] at C1 C2
  obtain ⟨q1, HQ1⟩ : ∃ x, Hid (sr.isSome = x) := ⟨_, hide rfl⟩
  obtain ⟨y, HY⟩ : ∃ x, Hid (sr.getD [] = x) := ⟨_, hide rfl⟩
  rw [HY.out] at HSL
  have f1 : (q1 != q1) = false := by cases q1 <;> rfl
  clear hv1 HOB HCUT HLB HBv hg2
  go_wp2_with (refine wpList_st_all 25 _ rfl rfl rfl H2.out _ Tryd.underlying25 rfl size_reply ?_)
  refine (C1.out w3 HLs.out HT.out).mono ?_
  rintro e w5 ⟨x5, rfl, hx5, hy5, hb5⟩
  rw [HQ1.out]
  rw [HY.out] at hx5 hy5
  have HX := hide hx5
  have HYB := hide hy5
  replace H2 := hide (H2.out.below hb5 H2.out.lt)
  replace HLs := hide ((HLs.out.below hb5 (Nat.le_refl _)).more hb5.size)
  replace HBs := hide ((HBs.out.below hb5 (Nat.le_refl _)).more hb5.size)
  replace HT := hide ((HT.out.below hb5 (Nat.le_refl _)).more hb5.size)
  replace HB := hide (HB.out.trans (hb5.mono HB.out.size))
  clear hx5 hy5 hb5
  go_wp2_with (refine wpList_st_all 25 _ rfl rfl rfl H2.out _ Tryd.underlying25 rfl size_reply ?_)
  refine (C2.out w5 HLs.out).mono ?_
  rintro e w6 ⟨x6, rfl, hx6, hy6, hb6⟩
  rw [HQ1.out]
  rw [HY.out] at hx6
  have HX2 := hide hx6
  replace HX := hide ((HX.out.below hb6 (Nat.le_refl _)).more hb6.size)
  replace HBs := hide ((HBs.out.below hb6 (Nat.le_refl _)).more hb6.size)
  replace HT := hide ((HT.out.below hb6 (Nat.le_refl _)).more hb6.size)
  replace HB := hide (HB.out.trans (hb6.mono HB.out.size))
  clear hx6 hy6 hb6 H2 HLs C1 C2
  go_wp2_with go_skip
  refine (same_bytes x5 x6 y y w6 w6.heap.size HX.out HX2.out (Nat.le_refl _)).mono ?_
  rintro e w7 ⟨rfl, hb7⟩
  rw [decide_eq_true rfl]
  replace HX2 := hide ((HX2.out.below hb7 (Nat.le_refl _)).more hb7.size)
  replace HBs := hide ((HBs.out.below hb7 (Nat.le_refl _)).more hb7.size)
  replace HT := hide ((HT.out.below hb7 (Nat.le_refl _)).more hb7.size)
  replace HB := hide (HB.out.trans (hb7.mono HB.out.size))
  clear hb7 HX
  obtain ⟨s1, HS1⟩ : ∃ x, Hid (Msg.saidP bc = x) := ⟨_, hide rfl⟩
  obtain ⟨s2, HS2⟩ : ∃ x, Hid (Msg.saidP y = x) := ⟨_, hide rfl⟩
  have D1 := hide (fun (w' : World) (hl : Bs w' w'.heap.size (.slice A1 n1 c1) bc) (ht : Tab w' w'.heap.size) => (Said_any (.slice A1 n1 c1) bc w' hl HBY.out (by have := HBL.out; omega) ht).mono (fun e w'' h => SaidRes.u h))
  have D2 := hide (fun (w' : World) (hl : Bs w' w'.heap.size (.slice A1 n1 c1) bc) => (Said_ref (.slice A1 n1 c1) bc w' hl HBY.out (by have := HBL.out; omega)).mono (fun e w'' h => SaidRes.u h))
  have D3 := hide (fun (w' : World) (hl : Bs w' w'.heap.size x6 y) (ht : Tab w' w'.heap.size) => (Said_any x6 y w' hl HYB.out (by have := HSL.out; omega) ht).mono (fun e w'' h => SaidRes.u h))
  have D4 := hide (fun (w' : World) (hl : Bs w' w'.heap.size x6 y) => (Said_ref x6 y w' hl HYB.out (by have := HSL.out; omega)).mono (fun e w'' h => SaidRes.u h))
  rw [HS1.out] at D1
  rw [← Msg.said_same HBY.out, HS1.out] at D2
  rw [HS2.out] at D3
  rw [← Msg.said_same HYB.out, HS2.out] at D4
  obtain ⟨q2, HQ2⟩ : ∃ x, Hid (s1.isSome = x) := ⟨_, hide rfl⟩
  obtain ⟨⟨E1, l1⟩, HP1⟩ : ∃ x, Hid (s1.getD (0, []) = x) := ⟨_, hide rfl⟩
  obtain ⟨q3, HQ3⟩ : ∃ x, Hid (s2.isSome = x) := ⟨_, hide rfl⟩
  obtain ⟨⟨E2, l2⟩, HP2⟩ : ∃ x, Hid (s2.getD (0, []) = x) := ⟨_, hide rfl⟩
  have f2 : (q2 == q2) = true := by cases q2 <;> rfl
  have f3 : (q3 == q3) = true := by cases q3 <;> rfl
  have f4 : (E1 == E1) = true := by simp
  have f5 : (E2 == E2) = true := by simp
  go_wp2_with fail
  refine (D1.out w7 HBs.out HT.out).mono ?_
  rintro e w8a ⟨u21, rfl, hx21, hb21⟩
  rw [HP1.out] at hx21 ⊢
  rw [HQ2.out]
  obtain ⟨A21, c21, rfl, _, _, _⟩ := hx21.open_
  obtain ⟨n21, HN21⟩ : ∃ x, Hid (l1.length = x) := ⟨_, hide rfl⟩
  simp only [HN21.out] at hx21 ⊢
  have HU9 := hide hx21
  replace HX2 := hide ((HX2.out.below hb21 (Nat.le_refl _)).more hb21.size)
  replace HBs := hide ((HBs.out.below hb21 (Nat.le_refl _)).more hb21.size)
  replace HT := hide ((HT.out.below hb21 (Nat.le_refl _)).more hb21.size)
  replace HB := hide (HB.out.trans (hb21.mono HB.out.size))
  clear hx21 hb21
  obtain ⟨g21, HG21⟩ : ∃ x, Hid (w8a.heap.size = x) := ⟨_, hide rfl⟩
  go_wp2_with (first
    | (refine wpList_alloc_blk rfl 25 rfl _ zero_reply ?_; intro w8b hbk21 hw21 hs21; rw [HG21.out] at hbk21; try rw [HG21.out]; have H9 := hide hbk21; have HBa := hide hw21; clear hbk21 hw21)
    | (refine wpList_st_putAll _ _ _ rfl rfl rfl H9.out [Value.int .i64 E1, .slice A21 n21 c21] rfl rfl size_reply (reply_one E1 A21 n21 c21) ?_; intro w8 hbk21 hg21 ht21; replace H9 := hide hbk21; have HBb := hide (HBa.out.grown hg21 (by have := HBa.out.size; omega) (by intro k hk; injection hk; have := HG21.out; omega)); clear hbk21 hg21))
  have hbb21 := HBb.out
  replace HX2 := hide ((HX2.out.below hbb21 (Nat.le_refl _)).more hbb21.size)
  replace HBs := hide ((HBs.out.below hbb21 (Nat.le_refl _)).more hbb21.size)
  replace HT := hide ((HT.out.below hbb21 (Nat.le_refl _)).more hbb21.size)
  replace HU9 := hide ((HU9.out.below hbb21 (Nat.le_refl _)).more hbb21.size)
  replace HB := hide (HB.out.trans (hbb21.mono HB.out.size))
  clear hbb21 HBa HBb hs21 ht21
  go_wp2_with fail
  refine (D2.out w8 HBs.out).mono ?_
  rintro e w9a ⟨u22, rfl, hx22, hb22⟩
  rw [HP1.out] at hx22 ⊢
  rw [HQ2.out]
  obtain ⟨A22, c22, rfl, _, _, _⟩ := hx22.open_
  obtain ⟨n22, HN22⟩ : ∃ x, Hid (l1.length = x) := ⟨_, hide rfl⟩
  simp only [HN22.out] at hx22 ⊢
  have HU10 := hide hx22
  replace HX2 := hide ((HX2.out.below hb22 (Nat.le_refl _)).more hb22.size)
  replace HT := hide ((HT.out.below hb22 (Nat.le_refl _)).more hb22.size)
  replace H9 := hide (H9.out.below hb22 H9.out.lt)
  replace HU9 := hide ((HU9.out.below hb22 (Nat.le_refl _)).more hb22.size)
  replace HB := hide (HB.out.trans (hb22.mono HB.out.size))
  clear hx22 hb22
  obtain ⟨g22, HG22⟩ : ∃ x, Hid (w9a.heap.size = x) := ⟨_, hide rfl⟩
  go_wp2_with (first
    | (refine wpList_alloc_blk rfl 25 rfl _ zero_reply ?_; intro w9b hbk22 hw22 hs22; rw [HG22.out] at hbk22; try rw [HG22.out]; have H10 := hide hbk22; have HBa := hide hw22; clear hbk22 hw22)
    | (refine wpList_st_putAll _ _ _ rfl rfl rfl H10.out [Value.int .i64 E1, .slice A22 n22 c22] rfl rfl size_reply (reply_one E1 A22 n22 c22) ?_; intro w9 hbk22 hg22 ht22; replace H10 := hide hbk22; have HBb := hide (HBa.out.grown hg22 (by have := HBa.out.size; omega) (by intro k hk; injection hk; have := HG22.out; omega)); clear hbk22 hg22))
  have hbb22 := HBb.out
  replace HX2 := hide ((HX2.out.below hbb22 (Nat.le_refl _)).more hbb22.size)
  replace HT := hide ((HT.out.below hbb22 (Nat.le_refl _)).more hbb22.size)
  replace H9 := hide (H9.out.below hbb22 H9.out.lt)
  replace HU9 := hide ((HU9.out.below hbb22 (Nat.le_refl _)).more hbb22.size)
  replace HU10 := hide ((HU10.out.below hbb22 (Nat.le_refl _)).more hbb22.size)
  replace HB := hide (HB.out.trans (hbb22.mono HB.out.size))
  clear hbb22 HBa HBb hs22 ht22
  go_wp2_with fail
  refine (D3.out w9 HX2.out HT.out).mono ?_
  rintro e w10a ⟨u23, rfl, hx23, hb23⟩
  rw [HP2.out] at hx23 ⊢
  rw [HQ3.out]
  obtain ⟨A23, c23, rfl, _, _, _⟩ := hx23.open_
  obtain ⟨n23, HN23⟩ : ∃ x, Hid (l2.length = x) := ⟨_, hide rfl⟩
  simp only [HN23.out] at hx23 ⊢
  have HU11 := hide hx23
  replace HX2 := hide ((HX2.out.below hb23 (Nat.le_refl _)).more hb23.size)
  replace HT := hide ((HT.out.below hb23 (Nat.le_refl _)).more hb23.size)
  replace H9 := hide (H9.out.below hb23 H9.out.lt)
  replace HU9 := hide ((HU9.out.below hb23 (Nat.le_refl _)).more hb23.size)
  replace H10 := hide (H10.out.below hb23 H10.out.lt)
  replace HU10 := hide ((HU10.out.below hb23 (Nat.le_refl _)).more hb23.size)
  replace HB := hide (HB.out.trans (hb23.mono HB.out.size))
  clear hx23 hb23
  obtain ⟨g23, HG23⟩ : ∃ x, Hid (w10a.heap.size = x) := ⟨_, hide rfl⟩
  go_wp2_with (first
    | (refine wpList_alloc_blk rfl 25 rfl _ zero_reply ?_; intro w10b hbk23 hw23 hs23; rw [HG23.out] at hbk23; try rw [HG23.out]; have H11 := hide hbk23; have HBa := hide hw23; clear hbk23 hw23)
    | (refine wpList_st_putAll _ _ _ rfl rfl rfl H11.out [Value.int .i64 E2, .slice A23 n23 c23] rfl rfl size_reply (reply_one E2 A23 n23 c23) ?_; intro w10 hbk23 hg23 ht23; replace H11 := hide hbk23; have HBb := hide (HBa.out.grown hg23 (by have := HBa.out.size; omega) (by intro k hk; injection hk; have := HG23.out; omega)); clear hbk23 hg23))
  have hbb23 := HBb.out
  replace HX2 := hide ((HX2.out.below hbb23 (Nat.le_refl _)).more hbb23.size)
  replace HT := hide ((HT.out.below hbb23 (Nat.le_refl _)).more hbb23.size)
  replace H9 := hide (H9.out.below hbb23 H9.out.lt)
  replace HU9 := hide ((HU9.out.below hbb23 (Nat.le_refl _)).more hbb23.size)
  replace H10 := hide (H10.out.below hbb23 H10.out.lt)
  replace HU10 := hide ((HU10.out.below hbb23 (Nat.le_refl _)).more hbb23.size)
  replace HU11 := hide ((HU11.out.below hbb23 (Nat.le_refl _)).more hbb23.size)
  replace HB := hide (HB.out.trans (hbb23.mono HB.out.size))
  clear hbb23 HBa HBb hs23 ht23
  go_wp2_with fail
  refine (D4.out w10 HX2.out).mono ?_
  rintro e w11a ⟨u24, rfl, hx24, hb24⟩
  rw [HP2.out] at hx24 ⊢
  rw [HQ3.out]
  obtain ⟨A24, c24, rfl, _, _, _⟩ := hx24.open_
  obtain ⟨n24, HN24⟩ : ∃ x, Hid (l2.length = x) := ⟨_, hide rfl⟩
  simp only [HN24.out] at hx24 ⊢
  have HU13 := hide hx24
  replace HT := hide ((HT.out.below hb24 (Nat.le_refl _)).more hb24.size)
  replace H9 := hide (H9.out.below hb24 H9.out.lt)
  replace HU9 := hide ((HU9.out.below hb24 (Nat.le_refl _)).more hb24.size)
  replace H10 := hide (H10.out.below hb24 H10.out.lt)
  replace HU10 := hide ((HU10.out.below hb24 (Nat.le_refl _)).more hb24.size)
  replace H11 := hide (H11.out.below hb24 H11.out.lt)
  replace HU11 := hide ((HU11.out.below hb24 (Nat.le_refl _)).more hb24.size)
  replace HB := hide (HB.out.trans (hb24.mono HB.out.size))
  clear hx24 hb24
  obtain ⟨g24, HG24⟩ : ∃ x, Hid (w11a.heap.size = x) := ⟨_, hide rfl⟩
  go_upto_region 11 with (first
    | (refine wpList_alloc_blk rfl 25 rfl _ zero_reply ?_; intro w11b hbk24 hw24 hs24; rw [HG24.out] at hbk24; try rw [HG24.out]; have H13 := hide hbk24; have HBa := hide hw24; clear hbk24 hw24)
    | (refine wpList_st_putAll _ _ _ rfl rfl rfl H13.out [Value.int .i64 E2, .slice A24 n24 c24] rfl rfl size_reply (reply_one E2 A24 n24 c24) ?_; intro w11 hbk24 hg24 ht24; replace H13 := hide hbk24; have HBb := hide (HBa.out.grown hg24 (by have := HBa.out.size; omega) (by intro k hk; injection hk; have := HG24.out; omega)); clear hbk24 hg24))
  have hbb24 := HBb.out
  replace HT := hide ((HT.out.below hbb24 (Nat.le_refl _)).more hbb24.size)
  replace H9 := hide (H9.out.below hbb24 H9.out.lt)
  replace HU9 := hide ((HU9.out.below hbb24 (Nat.le_refl _)).more hbb24.size)
  replace H10 := hide (H10.out.below hbb24 H10.out.lt)
  replace HU10 := hide ((HU10.out.below hbb24 (Nat.le_refl _)).more hbb24.size)
  replace H11 := hide (H11.out.below hbb24 H11.out.lt)
  replace HU11 := hide ((HU11.out.below hbb24 (Nat.le_refl _)).more hbb24.size)
  replace HU13 := hide ((HU13.out.below hbb24 (Nat.le_refl _)).more hbb24.size)
  replace HB := hide (HB.out.trans (hbb24.mono HB.out.size))
  clear hbb24 HBa HBb hs24 ht24
  clear D1 D2 D3 D4
  go_wp2_with (first
  | go_skip
  | (refine wpList_st_get 22 _ rfl 0 rfl rfl H9.out _ Tryd.underlying22 rfl _ rfl ?_)
  | (refine wpList_st_get 22 _ rfl 0 rfl rfl H10.out _ Tryd.underlying22 rfl _ rfl ?_)
  | (refine wpList_st_get 22 _ rfl 0 rfl rfl H11.out _ Tryd.underlying22 rfl _ rfl ?_)
  | (refine wpList_st_get 22 _ rfl 0 rfl rfl H13.out _ Tryd.underlying22 rfl _ rfl ?_)
  | (refine wpList_st_get 23 _ rfl 1 rfl rfl H9.out _ Tryd.underlying23 rfl _ rfl ?_)
  | (refine wpList_st_get 23 _ rfl 1 rfl rfl H10.out _ Tryd.underlying23 rfl _ rfl ?_)
  | (refine wpList_st_get 23 _ rfl 1 rfl rfl H11.out _ Tryd.underlying23 rfl _ rfl ?_)
  | (refine wpList_st_get 23 _ rfl 1 rfl rfl H13.out _ Tryd.underlying23 rfl _ rfl ?_)
  )
  refine (keep_blobs _ _ l1 l1 w11 w11.heap.size (Nat.le_refl _) HU9.out HU10.out).mono ?_
  rintro e w12 ⟨rfl, hb12⟩
  rw [decide_eq_true rfl]
  replace HT := hide ((HT.out.below hb12 (Nat.le_refl _)).more hb12.size)
  replace H11 := hide (H11.out.below hb12 H11.out.lt)
  replace HU11 := hide ((HU11.out.below hb12 (Nat.le_refl _)).more hb12.size)
  replace H13 := hide (H13.out.below hb12 H13.out.lt)
  replace HU13 := hide ((HU13.out.below hb12 (Nat.le_refl _)).more hb12.size)
  replace HB := hide (HB.out.trans (hb12.mono HB.out.size))
  clear hb12 H9 H10 HU9 HU10
  go_wp2_with (first
  | go_skip
  | (refine wpList_st_get 22 _ rfl 0 rfl rfl H11.out _ Tryd.underlying22 rfl _ rfl ?_)
  | (refine wpList_st_get 22 _ rfl 0 rfl rfl H13.out _ Tryd.underlying22 rfl _ rfl ?_)
  | (refine wpList_st_get 23 _ rfl 1 rfl rfl H11.out _ Tryd.underlying23 rfl _ rfl ?_)
  | (refine wpList_st_get 23 _ rfl 1 rfl rfl H13.out _ Tryd.underlying23 rfl _ rfl ?_))
  refine (keep_blobs _ _ l2 l2 w12 w12.heap.size (Nat.le_refl _) HU11.out HU13.out).mono ?_
  rintro e w13 ⟨rfl, hb13⟩
  rw [decide_eq_true rfl]
  replace HT := hide ((HT.out.below hb13 (Nat.le_refl _)).more hb13.size)
  replace HB := hide (HB.out.trans (hb13.mono HB.out.size))
  clear hb13 H11 H13 HU11 HU13
  go_wp2_with go_skip
  refine (wakes17 w13 HT.out).mono ?_
  rintro e w14 ⟨rfl, hb14⟩
  replace HB := hide (HB.out.trans (hb14.mono HB.out.size))
  clear hb14
  go_wp2_with go_skip
  go_ret
  exact ⟨rfl, HB.out⟩

set_option maxRecDepth 100000 in
theorem lifted (os : Os) (started : os.Started) (H : Type) (enc : TypeId × Value → H) :
    ReturnsInHanded {} Tryd.checked os 3 .any (fun w args => (Rows.msgsSaysSpec.pre enc Tryd.prog Tryd.f3 [] false w args ∧ laidMetH Tryd.prog laidD w) ∧ sizedMet enc Tryd.prog Tryd.f3 (OpenSpec.ofChange Rows.msgsSaysSpec) false w args)
      (Rows.msgsSaysSpec.post enc Tryd.prog Tryd.f3 false true false false) := by
  refine returnsInHanded_of_change_and (C := Tryd.checked) (X := fun w _ => laidMetH Tryd.prog laidD w) (fun _ _ _ hh h => h.of_heap hh) own started (by kernel_rfl) Tryd.func3
    (ChangeSpec.witness_shaped (enc := enc) (C := Tryd.checked) (os := os) (X := fun w _ => laidMetH Tryd.prog laidD w) false (World.doorLaid Tryd.prog doorSteps os) #[.agg #[.int .i64 0, .slice none 0 0], .slice none 0 0] 8 rfl (World.shaped_of_RefB (by kernel_rfl) (by kernel_rfl)) (by kernel_rfl) (by kernel_rfl) (by kernel_rfl) (door_met os _)) ?_
  intro W base args ds gs before hval0 hW _ _ hL _
  have hT := tab_of hL
  have hval : ∀ (j : Nat) t v, Tryd.f3.params[j]? = some t → args[j]? = some v → Value.okWide Tryd.prog W .any base t v := hval0
  have hW' := hW
  obtain ⟨p, q, hA0, hV, rfl, hfz, hnd⟩ := hW
  have hA : DataW.TrodAll enc Tryd.prog W 0 (fun _ => true) true Tryd.f3.params.toList args.toList ds p := hA0
  rw [Tryd.params3] at hA hval
  obtain ⟨v0, vs0, d0, ds0, p0, q0, hargs, rfl, rfl, h0, r0⟩ := trodAll_cons hA
  obtain ⟨v1, vs1, d1, ds1, p1, q1, rfl, rfl, rfl, h1, r1⟩ := trodAll_cons r0
  obtain ⟨rfl, rfl, rfl⟩ := trodAll_nil r1
  obtain rfl : args = #[v0, v1] := by cases args; simp_all
  obtain ⟨rfl, rfl⟩ := trodVars_none hV
  have k0 := h0
  have lt0 : ∀ x ∈ p0, x.block < W.heap.size := by obtain ⟨m, hm⟩ := k0; exact DataW.trod_lt m _ _ _ hm
  obtain ⟨z0, l0, rfl, w0, b0⟩ := read_reply (hval 0 25 v0 rfl rfl) h0
  obtain ⟨s1, len1, cap1, rfl⟩ := okWide_slice Tryd.underlying26 (hval 1 26 v1 rfl rfl)
  have k1 := h1
  have lt1 : ∀ x ∈ p1, x.block < W.heap.size := by obtain ⟨m, hm⟩ := k1; exact DataW.trod_lt m _ _ _ hm
  obtain ⟨z1, w1, b1⟩ := read_bytes h1
  clear hA0 hval0
  refine (walk W hT z0 l0 w0 b0 _ z1 w1 b1).mono fun e W' ⟨he, bel⟩ => ?_
  subst he
  exact ⟨_, rfl, _, _, _, [], _, [], hW', trodAll_mk1 (shut_bool Tryd.underlying4 _), (trodAll_cons_mk (Below.trod laidOut (by kernel_rfl) (of_decide_eq_true (by kernel_rfl)) k0 bel lt0) (trodAll_cons_mk (Below.trod laidOut (by kernel_rfl) (of_decide_eq_true (by kernel_rfl)) k1 bel lt1) trodAll_mk0)), rfl, bel.frame _, fun h => by cases h⟩

theorem over : Rows.msgsSaysRow.holds Tryd.pinned (OpenSpec.ofChange Rows.msgsSaysSpec) :=
  OpenClaim.holds_of_wide 3 Tryd.f3 rfl rfl rfl rfl rfl rfl rfl ⟨rfl, rfl, rfl, rfl, rfl⟩ rfl rfl rfl rfl rfl (by kernel_rfl) Tryd.func3 (by kernel_rfl)
    (of_decide_eq_true (by kernel_rfl)) (by unfold Func.isWrapper; rw [if_neg (of_decide_eq_false (by kernel_rfl))]; exact ⟨rfl, rfl⟩)
    (fun os started H enc _ => lifted os started H enc)

theorem proved : Rows.MsgsSaysCardSaid :=
  Claim7.holds_tied_plain_at .later [] Rows.msgsSaysCard.laidKinds true Rows.msgsSaysCard.stood.harness Rows.msgsSaysCard.stood.looks
    over (fun _ h => by cases h) (by kernel_rfl) (fun _ h => by cases h) msgsSays_row_tie rfl ⟨rfl, rfl⟩ (by kernel_rfl) rfl
    (fun f fn hf hfn => by
      obtain rfl : f = 3 := Option.some.inj ((show Tryd.prog.funcNamed "aumbry/aumbrylaw17.MsgsSays" = some 3 by kernel_rfl).symm.trans hf) |>.symm
      obtain rfl : fn = Tryd.f3 := (Option.some.inj (Tryd.func3.symm.trans hfn)).symm
      exact ⟨by kernel_rfl, fun j t ht => by
        have ht' : Tryd.f3.params[j]? = some t := ht
        rw [Tryd.params3] at ht'
        have hm : t ∈ [25, 26] := by simpa using Array.mem_of_getElem? ht'
        have hall : ([25, 26].all fun u => !Tryd.prog.wantsStandIn u) = true := by kernel_rfl
        exact (show Tryd.prog.wantsStandIn t = false by simpa using List.all_eq_true.1 hall t hm)⟩)
    (by kernel_rfl)
end Go.Proofs.YtfinfkodjkfibaaDoor.LawMsgsSays
