/-
MsgsAsks holds: a request's bytes, or that it is too long; any bytes as a request: the program answers as the document. Conditions: none but the row's own.
-/
import Derived.Test.YtfinfkodjkfibaaDoorMsgAsked
import Derived.Test.YtfinfkodjkfibaaDoorMsgAskedR
import Derived.Test.YtfinfkodjkfibaaDoorMsgAskR
import Derived.Test.YtfinfkodjkfibaaDoorMsgUs
import Derived.Test.YtfinfkodjkfibaaDoorKeepAll
import Derived.Test.YtfinfkodjkfibaaDoorWakes17
import Derived.Test.YtfinfkodjkfibaaDoorTied
namespace Go.Proofs.YtfinfkodjkfibaaDoor.LawMsgsAsks
open Go Go.RowKit Go.ChangeShapes Go.WideShapes Go.ChangeAt
set_option linter.unusedVariables false
set_option linter.unusedSimpArgs false
set_option maxRecDepth 100000

set_option maxHeartbeats 16000000 in
theorem walk (w : World) (ht : Tab w w.heap.size) (r : Msg.Req) (u : Value × Value) (hin : InR r) (hu : TstsB w w.heap.size u.1 r.tests ∧ BlbsB w w.heap.size u.2 r.blobs) (v : Value) (b : List Int) (hv : Bs w w.heap.size v b) (hb : Bytes b) :
    Calls Tryd.prog 6 #[.agg (reqCells r u.1 u.2).toArray, v] w fun e w' => e = .returned (.bool true) ∧ Below w.heap.size w w' := by
  obtain ⟨ut, ub⟩ := u
  simp only at hu ⊢
  have HT := hide ht
  have HUT := hide hu.1
  have HUB := hide hu.2
  have HKR := hide hin.keys
  have HONE := hide (And.intro hu.1.one hu.2.one_)
  have HNOB := hide (And.intro hu.1.noB hu.2.noB)
  have HASK := hide (cutR_in hin)
  have HBv := hide hv
  have HBY := hide (show Bytes (b.take 500) from fun x hx => hb x (List.mem_of_mem_take hx))
  have HBL := hide (show (b.take 500).length ≤ 500 by rw [List.length_take]; omega)
  obtain ⟨bc, HBC⟩ : ∃ x, Hid (b.take 500 = x) := ⟨_, hide rfl⟩
  have HCUT := hide (fun (w' : World) (h : Below w.heap.size w w') => cut_bytes v b 500 w' w.heap.size (hv.below h (Nat.le_refl _)) (by omega) (by omega))
  rw [show b.take (500 : Int).toNat = bc from HBC.out] at HCUT
  rw [HBC.out] at HBY HBL
  obtain ⟨Av, cv, rfl, _, _, _⟩ := hv.open_
  obtain ⟨nb, HNB⟩ : ∃ x, Hid (b.length = x) := ⟨_, hide rfl⟩
  rw [HNB.out] at HCUT ⊢
  obtain ⟨g2, HG⟩ : ∃ k, Hid (w.heap.size = k) := ⟨_, hide rfl⟩
  obtain ⟨qc, HQC⟩ : ∃ x, Hid (cutR r = x) := ⟨_, hide rfl⟩
  have HKC := hide (show KeysR qc from by rw [← HQC.out]; exact HASK.out.keys)
  rw [HQC.out] at HASK
  clear ht hin hu hv hb
  go_enter Tryd.func6, Tryd.ntmps6
  go_wp2_with (first
    | (refine wpList_rq_box _ rfl rfl rfl HKR.out HONE.out.1 HONE.out.2 ?_; intro w1 hb1 hw1 hs1; rw [HG.out] at hb1; try rw [HG.out]; have H2 := hide hb1; have HB := hide hw1; clear hb1 hw1)
    | (refine wpList_rq_all _ rfl rfl rfl H2.out ?_))
  refine (request_any r ut ub r.tests r.blobs w1 HKR.out ((HUT.out.below HB.out (Nat.le_refl _)).more HB.out.size) ((HUB.out.below HB.out (Nat.le_refl _)).more HB.out.size)).mono ?_
  rintro e w2 ⟨vt, vb, rfl, htt, hob, hb2⟩
  have HOB := hide (show OwnBlbs w2 w1.heap.size vb qc.blobs by rw [← HQC.out]; exact hob)
  have HTS := hide (show TstsB w2 w1.heap.size vt qc.tests by rw [← HQC.out]; exact htt)
  have HTO := hide htt.one
  have HBO := hide hob.one
  have hz1 := HB.out.size
  have hz2 := hb2.size
  have hg2 : g2 < w1.heap.size := H2.out.lt
  replace H2 := hide (H2.out.below hb2 H2.out.lt)
  replace HB := hide (HB.out.trans (hb2.mono HB.out.size))
  have hwg : w.heap.size ≤ g2 ∧ g2 ≤ w.heap.size := by have := HG.out; omega
  have HEQ := hide (fun (vt vb : Value) => show reqCells r vt vb = reqCells qc vt vb by rw [← HQC.out]; rfl)
  rw [HEQ.out vt vb]
  have HKU := hide (fun (vt' vb' : Value) => rq_keep (q := r) (q' := qc) (vt := ut) (vb := ub) (vt' := vt') (vb' := vb') HKR.out HKC.out (by rw [← HQC.out]; rfl) (by rw [← HQC.out]; rfl) (by rw [← HQC.out]; rfl) HNOB.out.1.2 HNOB.out.2.2)
  clear htt hob hb2
  go_wp2_with fail
  refine (HCUT.out w2 HB.out).mono ?_
  rintro e w4 ⟨v1, rfl, hv1, rfl⟩
  obtain ⟨A1, c1, rfl, _, _, _⟩ := hv1.open_
  obtain ⟨n1, HN1⟩ : ∃ x, Hid (bc.length = x) := ⟨_, hide rfl⟩
  rw [HN1.out]
  have hv1' := hv1
  rw [HN1.out] at hv1'
  have HV1 := hide hv1'
  clear hv1 hv1' HCUT HBv
  go_wp2_with (first
    | (refine wpList_rq_putAll _ _ rfl rfl rfl H2.out qc vt vb rfl HKC.out HTO.out HBO.out ?_; intro w3 hb3 hg3 hs3; replace HOB := hide (HOB.out.keepU8 hz2 hg3 H2.out.blk hb3.blk (HKU.out _ _) (by decide) (by decide)); replace HTS := hide (HTS.out.past hz2 hg3 H2.out.blk (rq_nobool HNOB.out.1.1 HNOB.out.2.1)); replace H2 := hide hb3; have HBW := hide ((Below.refl w.heap.size w2).grown hg3 (by omega) (by intro k hk; injection hk; omega)); replace HB := hide (HB.out.grown hg3 (by omega) (by intro k hk; injection hk; omega)); clear hb3 hg3)
    | (refine wpList_rq_all _ rfl rfl rfl H2.out ?_))
  have HLt := hide (HTS.out.more (show w1.heap.size ≤ w3.heap.size by omega))
  have HLs := hide (HOB.out.reads (by omega))
  have HBs := hide ((HV1.out.below HBW.out (Nat.le_refl _)).more HB.out.size)
  replace HT := hide ((HT.out.below HB.out (Nat.le_refl _)).more HB.out.size)
  obtain ⟨sr, HSR⟩ : ∃ x, Hid (Msg.askF qc = x) := ⟨_, hide rfl⟩
  have HSL := hide (ask_get_len HSR.out)
  have C1 := hide (fun (w' : World) (ht' : TstsB w' w'.heap.size vt qc.tests) (hl : BlbsB w' w'.heap.size vb qc.blobs) (ht : Tab w' w'.heap.size) => (Ask_any qc vt vb w' HASK.out ht' hl ht).mono (fun e w'' h => SayRes.u h))
  have C2 := hide (fun (w' : World) (ht' : TstsB w' w'.heap.size vt qc.tests) (hl : BlbsB w' w'.heap.size vb qc.blobs) => (Ask_ref qc vt vb w' HASK.out ht' hl).mono (fun e w'' h => SayRes.u h))
  rw [HSR.out] at C1 C2
  obtain ⟨q1, HQ1⟩ : ∃ x, Hid (sr.isSome = x) := ⟨_, hide rfl⟩
  obtain ⟨y, HY⟩ : ∃ x, Hid (sr.getD [] = x) := ⟨_, hide rfl⟩
  rw [HY.out] at HSL
  have f1 : (q1 != q1) = false := by cases q1 <;> rfl
  clear HOB HTS HUT HUB HV1 HBW HKU HEQ HNOB hg2
  refine (C1.out w3 HLt.out HLs.out HT.out).mono ?_
  rintro e w5 ⟨x5, rfl, hx5, hy5, hb5⟩
  rw [HQ1.out]
  rw [HY.out] at hx5 hy5
  have HX := hide hx5
  have HYB := hide hy5
  replace H2 := hide (H2.out.below hb5 H2.out.lt)
  replace HLs := hide ((HLs.out.below hb5 (Nat.le_refl _)).more hb5.size)
  replace HLt := hide ((HLt.out.below hb5 (Nat.le_refl _)).more hb5.size)
  replace HBs := hide ((HBs.out.below hb5 (Nat.le_refl _)).more hb5.size)
  replace HT := hide ((HT.out.below hb5 (Nat.le_refl _)).more hb5.size)
  replace HB := hide (HB.out.trans (hb5.mono HB.out.size))
  clear hx5 hy5 hb5
  go_wp2_with (refine wpList_rq_all _ rfl rfl rfl H2.out ?_)
  refine (C2.out w5 HLt.out HLs.out).mono ?_
  rintro e w6 ⟨x6, rfl, hx6, hy6, hb6⟩
  rw [HQ1.out]
  rw [HY.out] at hx6
  have HX2 := hide hx6
  replace HX := hide ((HX.out.below hb6 (Nat.le_refl _)).more hb6.size)
  replace HBs := hide ((HBs.out.below hb6 (Nat.le_refl _)).more hb6.size)
  replace HT := hide ((HT.out.below hb6 (Nat.le_refl _)).more hb6.size)
  replace HB := hide (HB.out.trans (hb6.mono HB.out.size))
  clear hx6 hy6 hb6 H2 HLs HLt C1 C2
  go_wp2_with go_skip
  refine (same_bytes x5 x6 y y w6 w6.heap.size HX.out HX2.out (Nat.le_refl _)).mono ?_
  rintro e w7 ⟨rfl, hb7⟩
  rw [decide_eq_true rfl]
  replace HX2 := hide ((HX2.out.below hb7 (Nat.le_refl _)).more hb7.size)
  replace HBs := hide ((HBs.out.below hb7 (Nat.le_refl _)).more hb7.size)
  replace HT := hide ((HT.out.below hb7 (Nat.le_refl _)).more hb7.size)
  replace HB := hide (HB.out.trans (hb7.mono HB.out.size))
  clear hb7 HX
  obtain ⟨s1, HS1⟩ : ∃ x, Hid (Msg.askedP bc = x) := ⟨_, hide rfl⟩
  obtain ⟨s2, HS2⟩ : ∃ x, Hid (Msg.askedP y = x) := ⟨_, hide rfl⟩
  have D1 := hide (fun (w' : World) (hl : Bs w' w'.heap.size (.slice A1 n1 c1) bc) (ht : Tab w' w'.heap.size) => (Asked_any (.slice A1 n1 c1) bc w' hl HBY.out (by have := HBL.out; omega) ht).mono (fun e w'' h => AskedRes.u h))
  have D2 := hide (fun (w' : World) (hl : Bs w' w'.heap.size (.slice A1 n1 c1) bc) => (Asked_ref (.slice A1 n1 c1) bc w' hl HBY.out (by have := HBL.out; omega)).mono (fun e w'' h => AskedRes.u h))
  have D3 := hide (fun (w' : World) (hl : Bs w' w'.heap.size x6 y) (ht : Tab w' w'.heap.size) => (Asked_any x6 y w' hl HYB.out (by have := HSL.out; omega) ht).mono (fun e w'' h => AskedRes.u h))
  have D4 := hide (fun (w' : World) (hl : Bs w' w'.heap.size x6 y) => (Asked_ref x6 y w' hl HYB.out (by have := HSL.out; omega)).mono (fun e w'' h => AskedRes.u h))
  rw [HS1.out] at D1
  rw [← Msg.asked_same HBY.out, HS1.out] at D2
  rw [HS2.out] at D3
  rw [← Msg.asked_same HYB.out, HS2.out] at D4
  obtain ⟨q2, HQ2⟩ : ∃ x, Hid (s1.isSome = x) := ⟨_, hide rfl⟩
  obtain ⟨P1, HP1⟩ : ∃ x, Hid (s1.getD req0 = x) := ⟨_, hide rfl⟩
  obtain ⟨q3, HQ3⟩ : ∃ x, Hid (s2.isSome = x) := ⟨_, hide rfl⟩
  obtain ⟨P2, HP2⟩ : ∃ x, Hid (s2.getD req0 = x) := ⟨_, hide rfl⟩
  have f2 : (q2 == q2) = true := by cases q2 <;> rfl
  have f3 : (q3 == q3) = true := by cases q3 <;> rfl
  go_wp2_with fail
  refine (D1.out w7 HBs.out HT.out).mono ?_
  rintro e w8a ⟨t21, u21, rfl, hk21, ht21, hx21, hb21⟩
  rw [HP1.out] at hk21 ht21 hx21 ⊢
  rw [HQ2.out]
  have HK21 := hide hk21
  have HT21 := hide ht21
  have HU21 := hide hx21
  have HO21 := hide (And.intro ht21.one hx21.one_)
  replace HX2 := hide ((HX2.out.below hb21 (Nat.le_refl _)).more hb21.size)
  replace HBs := hide ((HBs.out.below hb21 (Nat.le_refl _)).more hb21.size)
  replace HT := hide ((HT.out.below hb21 (Nat.le_refl _)).more hb21.size)
  replace HB := hide (HB.out.trans (hb21.mono HB.out.size))
  clear hk21 ht21 hx21 hb21
  obtain ⟨g21, HG21⟩ : ∃ x, Hid (w8a.heap.size = x) := ⟨_, hide rfl⟩
  go_wp2_with (first
    | (refine wpList_rq_zero rfl rfl ?_; intro w8b hbk21 hw21 hs21; rw [HG21.out] at hbk21; try rw [HG21.out]; have H9 := hide hbk21; have HBa := hide hw21; clear hbk21 hw21)
    | (refine wpList_rq_putAll _ _ rfl rfl rfl H9.out P1 t21 u21 rfl HK21.out HO21.out.1 HO21.out.2 ?_; intro w8 hbk21 hg21 ht21; replace H9 := hide hbk21; have HBb := hide (HBa.out.grown hg21 (by have := HBa.out.size; omega) (by intro k hk; injection hk; have := HG21.out; omega)); clear hbk21 hg21))
  have hbb21 := HBb.out
  replace HX2 := hide ((HX2.out.below hbb21 (Nat.le_refl _)).more hbb21.size)
  replace HBs := hide ((HBs.out.below hbb21 (Nat.le_refl _)).more hbb21.size)
  replace HT := hide ((HT.out.below hbb21 (Nat.le_refl _)).more hbb21.size)
  replace HT21 := hide ((HT21.out.below hbb21 (Nat.le_refl _)).more hbb21.size)
  replace HU21 := hide ((HU21.out.below hbb21 (Nat.le_refl _)).more hbb21.size)
  replace HB := hide (HB.out.trans (hbb21.mono HB.out.size))
  clear hbb21 HBa HBb hs21 ht21
  go_wp2_with fail
  refine (D2.out w8 HBs.out).mono ?_
  rintro e w9a ⟨t22, u22, rfl, hk22, ht22, hx22, hb22⟩
  rw [HP1.out] at hk22 ht22 hx22 ⊢
  rw [HQ2.out]
  have HK22 := hide hk22
  have HT22 := hide ht22
  have HU22 := hide hx22
  have HO22 := hide (And.intro ht22.one hx22.one_)
  replace HX2 := hide ((HX2.out.below hb22 (Nat.le_refl _)).more hb22.size)
  replace HT := hide ((HT.out.below hb22 (Nat.le_refl _)).more hb22.size)
  replace H9 := hide (H9.out.below hb22 H9.out.lt)
  replace HT21 := hide ((HT21.out.below hb22 (Nat.le_refl _)).more hb22.size)
  replace HU21 := hide ((HU21.out.below hb22 (Nat.le_refl _)).more hb22.size)
  replace HB := hide (HB.out.trans (hb22.mono HB.out.size))
  clear hk22 ht22 hx22 hb22
  obtain ⟨g22, HG22⟩ : ∃ x, Hid (w9a.heap.size = x) := ⟨_, hide rfl⟩
  go_wp2_with (first
    | (refine wpList_rq_zero rfl rfl ?_; intro w9b hbk22 hw22 hs22; rw [HG22.out] at hbk22; try rw [HG22.out]; have H10 := hide hbk22; have HBa := hide hw22; clear hbk22 hw22)
    | (refine wpList_rq_putAll _ _ rfl rfl rfl H10.out P1 t22 u22 rfl HK22.out HO22.out.1 HO22.out.2 ?_; intro w9 hbk22 hg22 ht22; replace H10 := hide hbk22; have HBb := hide (HBa.out.grown hg22 (by have := HBa.out.size; omega) (by intro k hk; injection hk; have := HG22.out; omega)); clear hbk22 hg22))
  have hbb22 := HBb.out
  replace HX2 := hide ((HX2.out.below hbb22 (Nat.le_refl _)).more hbb22.size)
  replace HT := hide ((HT.out.below hbb22 (Nat.le_refl _)).more hbb22.size)
  replace H9 := hide (H9.out.below hbb22 H9.out.lt)
  replace HT21 := hide ((HT21.out.below hbb22 (Nat.le_refl _)).more hbb22.size)
  replace HU21 := hide ((HU21.out.below hbb22 (Nat.le_refl _)).more hbb22.size)
  replace HT22 := hide ((HT22.out.below hbb22 (Nat.le_refl _)).more hbb22.size)
  replace HU22 := hide ((HU22.out.below hbb22 (Nat.le_refl _)).more hbb22.size)
  replace HB := hide (HB.out.trans (hbb22.mono HB.out.size))
  clear hbb22 HBa HBb hs22 ht22
  go_wp2_with fail
  refine (D3.out w9 HX2.out HT.out).mono ?_
  rintro e w10a ⟨t23, u23, rfl, hk23, ht23, hx23, hb23⟩
  rw [HP2.out] at hk23 ht23 hx23 ⊢
  rw [HQ3.out]
  have HK23 := hide hk23
  have HT23 := hide ht23
  have HU23 := hide hx23
  have HO23 := hide (And.intro ht23.one hx23.one_)
  replace HX2 := hide ((HX2.out.below hb23 (Nat.le_refl _)).more hb23.size)
  replace HT := hide ((HT.out.below hb23 (Nat.le_refl _)).more hb23.size)
  replace H9 := hide (H9.out.below hb23 H9.out.lt)
  replace HT21 := hide ((HT21.out.below hb23 (Nat.le_refl _)).more hb23.size)
  replace HU21 := hide ((HU21.out.below hb23 (Nat.le_refl _)).more hb23.size)
  replace H10 := hide (H10.out.below hb23 H10.out.lt)
  replace HT22 := hide ((HT22.out.below hb23 (Nat.le_refl _)).more hb23.size)
  replace HU22 := hide ((HU22.out.below hb23 (Nat.le_refl _)).more hb23.size)
  replace HB := hide (HB.out.trans (hb23.mono HB.out.size))
  clear hk23 ht23 hx23 hb23
  obtain ⟨g23, HG23⟩ : ∃ x, Hid (w10a.heap.size = x) := ⟨_, hide rfl⟩
  go_wp2_with (first
    | (refine wpList_rq_zero rfl rfl ?_; intro w10b hbk23 hw23 hs23; rw [HG23.out] at hbk23; try rw [HG23.out]; have H11 := hide hbk23; have HBa := hide hw23; clear hbk23 hw23)
    | (refine wpList_rq_putAll _ _ rfl rfl rfl H11.out P2 t23 u23 rfl HK23.out HO23.out.1 HO23.out.2 ?_; intro w10 hbk23 hg23 ht23; replace H11 := hide hbk23; have HBb := hide (HBa.out.grown hg23 (by have := HBa.out.size; omega) (by intro k hk; injection hk; have := HG23.out; omega)); clear hbk23 hg23))
  have hbb23 := HBb.out
  replace HX2 := hide ((HX2.out.below hbb23 (Nat.le_refl _)).more hbb23.size)
  replace HT := hide ((HT.out.below hbb23 (Nat.le_refl _)).more hbb23.size)
  replace H9 := hide (H9.out.below hbb23 H9.out.lt)
  replace HT21 := hide ((HT21.out.below hbb23 (Nat.le_refl _)).more hbb23.size)
  replace HU21 := hide ((HU21.out.below hbb23 (Nat.le_refl _)).more hbb23.size)
  replace H10 := hide (H10.out.below hbb23 H10.out.lt)
  replace HT22 := hide ((HT22.out.below hbb23 (Nat.le_refl _)).more hbb23.size)
  replace HU22 := hide ((HU22.out.below hbb23 (Nat.le_refl _)).more hbb23.size)
  replace HT23 := hide ((HT23.out.below hbb23 (Nat.le_refl _)).more hbb23.size)
  replace HU23 := hide ((HU23.out.below hbb23 (Nat.le_refl _)).more hbb23.size)
  replace HB := hide (HB.out.trans (hbb23.mono HB.out.size))
  clear hbb23 HBa HBb hs23 ht23
  go_wp2_with fail
  refine (D4.out w10 HX2.out).mono ?_
  rintro e w11a ⟨t24, u24, rfl, hk24, ht24, hx24, hb24⟩
  rw [HP2.out] at hk24 ht24 hx24 ⊢
  rw [HQ3.out]
  have HK24 := hide hk24
  have HT24 := hide ht24
  have HU24 := hide hx24
  have HO24 := hide (And.intro ht24.one hx24.one_)
  replace HT := hide ((HT.out.below hb24 (Nat.le_refl _)).more hb24.size)
  replace H9 := hide (H9.out.below hb24 H9.out.lt)
  replace HT21 := hide ((HT21.out.below hb24 (Nat.le_refl _)).more hb24.size)
  replace HU21 := hide ((HU21.out.below hb24 (Nat.le_refl _)).more hb24.size)
  replace H10 := hide (H10.out.below hb24 H10.out.lt)
  replace HT22 := hide ((HT22.out.below hb24 (Nat.le_refl _)).more hb24.size)
  replace HU22 := hide ((HU22.out.below hb24 (Nat.le_refl _)).more hb24.size)
  replace H11 := hide (H11.out.below hb24 H11.out.lt)
  replace HT23 := hide ((HT23.out.below hb24 (Nat.le_refl _)).more hb24.size)
  replace HU23 := hide ((HU23.out.below hb24 (Nat.le_refl _)).more hb24.size)
  replace HB := hide (HB.out.trans (hb24.mono HB.out.size))
  clear hk24 ht24 hx24 hb24
  obtain ⟨g24, HG24⟩ : ∃ x, Hid (w11a.heap.size = x) := ⟨_, hide rfl⟩
  go_upto_region 10 with (first
    | (refine wpList_rq_zero rfl rfl ?_; intro w11b hbk24 hw24 hs24; rw [HG24.out] at hbk24; try rw [HG24.out]; have H13 := hide hbk24; have HBa := hide hw24; clear hbk24 hw24)
    | (refine wpList_rq_putAll _ _ rfl rfl rfl H13.out P2 t24 u24 rfl HK24.out HO24.out.1 HO24.out.2 ?_; intro w11 hbk24 hg24 ht24; replace H13 := hide hbk24; have HBb := hide (HBa.out.grown hg24 (by have := HBa.out.size; omega) (by intro k hk; injection hk; have := HG24.out; omega)); clear hbk24 hg24))
  have hbb24 := HBb.out
  replace HT := hide ((HT.out.below hbb24 (Nat.le_refl _)).more hbb24.size)
  replace H9 := hide (H9.out.below hbb24 H9.out.lt)
  replace HT21 := hide ((HT21.out.below hbb24 (Nat.le_refl _)).more hbb24.size)
  replace HU21 := hide ((HU21.out.below hbb24 (Nat.le_refl _)).more hbb24.size)
  replace H10 := hide (H10.out.below hbb24 H10.out.lt)
  replace HT22 := hide ((HT22.out.below hbb24 (Nat.le_refl _)).more hbb24.size)
  replace HU22 := hide ((HU22.out.below hbb24 (Nat.le_refl _)).more hbb24.size)
  replace H11 := hide (H11.out.below hbb24 H11.out.lt)
  replace HT23 := hide ((HT23.out.below hbb24 (Nat.le_refl _)).more hbb24.size)
  replace HU23 := hide ((HU23.out.below hbb24 (Nat.le_refl _)).more hbb24.size)
  replace HT24 := hide ((HT24.out.below hbb24 (Nat.le_refl _)).more hbb24.size)
  replace HU24 := hide ((HU24.out.below hbb24 (Nat.le_refl _)).more hbb24.size)
  replace HB := hide (HB.out.trans (hbb24.mono HB.out.size))
  clear hbb24 HBa HBb hs24 ht24
  clear D1 D2 D3 D4
  go_wp2_with (first
  | go_skip
  | (refine wpList_rq_all _ rfl rfl rfl H9.out ?_)
  | (refine wpList_rq_all _ rfl rfl rfl H10.out ?_)
  | (refine wpList_rq_all _ rfl rfl rfl H11.out ?_)
  | (refine wpList_rq_all _ rfl rfl rfl H13.out ?_)
  )
  refine (keep_request P1 P1 _ _ _ _ w11 HK21.out HK22.out HT21.out HU21.out HT22.out HU22.out).mono ?_
  rintro e w12 ⟨rfl, hb12⟩
  rw [(reqEq_iff P1 P1).2 rfl]
  replace HT := hide ((HT.out.below hb12 (Nat.le_refl _)).more hb12.size)
  replace H11 := hide (H11.out.below hb12 H11.out.lt)
  replace HT23 := hide ((HT23.out.below hb12 (Nat.le_refl _)).more hb12.size)
  replace HU23 := hide ((HU23.out.below hb12 (Nat.le_refl _)).more hb12.size)
  replace H13 := hide (H13.out.below hb12 H13.out.lt)
  replace HT24 := hide ((HT24.out.below hb12 (Nat.le_refl _)).more hb12.size)
  replace HU24 := hide ((HU24.out.below hb12 (Nat.le_refl _)).more hb12.size)
  replace HB := hide (HB.out.trans (hb12.mono HB.out.size))
  clear hb12 H9 H10 HU21 HU22 HT21 HT22
  go_wp2_with (first
  | go_skip
  | (refine wpList_rq_all _ rfl rfl rfl H11.out ?_)
  | (refine wpList_rq_all _ rfl rfl rfl H13.out ?_))
  refine (keep_request P2 P2 _ _ _ _ w12 HK23.out HK24.out HT23.out HU23.out HT24.out HU24.out).mono ?_
  rintro e w13 ⟨rfl, hb13⟩
  rw [(reqEq_iff P2 P2).2 rfl]
  replace HT := hide ((HT.out.below hb13 (Nat.le_refl _)).more hb13.size)
  replace HB := hide (HB.out.trans (hb13.mono HB.out.size))
  clear hb13 H11 H13 HU23 HU24 HT23 HT24
  go_wp2_with go_skip
  refine (wakes17 w13 HT.out).mono ?_
  rintro e w14 ⟨rfl, hb14⟩
  replace HB := hide (HB.out.trans (hb14.mono HB.out.size))
  clear hb14
  go_wp2_with go_skip
  go_ret
  exact ⟨rfl, HB.out⟩

set_option maxRecDepth 100000 in
theorem lifted (os : Os) (started : os.Started) (H : Type) (enc : TypeId × Value → H) :
    ReturnsInHanded {} Tryd.checked os 6 .any (fun w args => (Rows.msgsAsksSpec.pre enc Tryd.prog Tryd.f6 [] false w args ∧ laidMetH Tryd.prog laidD w) ∧ sizedMet enc Tryd.prog Tryd.f6 (OpenSpec.ofChange Rows.msgsAsksSpec) false w args)
      (Rows.msgsAsksSpec.post enc Tryd.prog Tryd.f6 false true false false) := by
  refine returnsInHanded_of_change_and (C := Tryd.checked) (X := fun w _ => laidMetH Tryd.prog laidD w) (fun _ _ _ hh h => h.of_heap hh) own started (by kernel_rfl) Tryd.func6
    (ChangeSpec.witness_shaped (enc := enc) (C := Tryd.checked) (os := os) (X := fun w _ => laidMetH Tryd.prog laidD w) false (World.doorLaid Tryd.prog doorSteps os) #[.agg (reqCells req0 (.slice none 0 0) (.slice none 0 0)).toArray, .slice none 0 0] 8 rfl (World.shaped_of_RefB (by kernel_rfl) (by kernel_rfl)) (by kernel_rfl) (by kernel_rfl) (by kernel_rfl) (door_met os _)) ?_
  intro W base args ds gs before hval0 hW _ _ hL _
  have hT := tab_of hL
  have hval : ∀ (j : Nat) t v, Tryd.f6.params[j]? = some t → args[j]? = some v → Value.okWide Tryd.prog W .any base t v := hval0
  have hW' := hW
  obtain ⟨p, q, hA0, hV, rfl, hfz, hnd⟩ := hW
  have hA : DataW.TrodAll enc Tryd.prog W 0 (fun _ => true) true Tryd.f6.params.toList args.toList ds p := hA0
  rw [Tryd.params6] at hA hval
  obtain ⟨v0, vs0, d0, ds0, p0, q0, hargs, rfl, rfl, h0, r0⟩ := trodAll_cons hA
  obtain ⟨v1, vs1, d1, ds1, p1, q1, rfl, rfl, rfl, h1, r1⟩ := trodAll_cons r0
  obtain ⟨rfl, rfl, rfl⟩ := trodAll_nil r1
  obtain rfl : args = #[v0, v1] := by cases args; simp_all
  obtain ⟨rfl, rfl⟩ := trodVars_none hV
  have k0 := h0
  have lt0 : ∀ x ∈ p0, x.block < W.heap.size := by obtain ⟨m, hm⟩ := k0; exact DataW.trod_lt m _ _ _ hm
  obtain ⟨z0, l0, rfl, w0, b0⟩ := read_req (hval 0 31 v0 rfl rfl) h0
  obtain ⟨s1, len1, cap1, rfl⟩ := okWide_slice Tryd.underlying26 (hval 1 26 v1 rfl rfl)
  have k1 := h1
  have lt1 : ∀ x ∈ p1, x.block < W.heap.size := by obtain ⟨m, hm⟩ := k1; exact DataW.trod_lt m _ _ _ hm
  obtain ⟨z1, w1, b1⟩ := read_bytes h1
  clear hA0 hval0
  refine (walk W hT z0 l0 w0 b0 _ z1 w1 b1).mono fun e W' ⟨he, bel⟩ => ?_
  subst he
  exact ⟨_, rfl, _, _, _, [], _, [], hW', trodAll_mk1 (shut_bool Tryd.underlying4 _), (trodAll_cons_mk (Below.trod laidOut (by kernel_rfl) (of_decide_eq_true (by kernel_rfl)) k0 bel lt0) (trodAll_cons_mk (Below.trod laidOut (by kernel_rfl) (of_decide_eq_true (by kernel_rfl)) k1 bel lt1) trodAll_mk0)), rfl, bel.frame _, fun h => by cases h⟩

theorem over : Rows.msgsAsksRow.holds Tryd.pinned (OpenSpec.ofChange Rows.msgsAsksSpec) :=
  OpenClaim.holds_of_wide 6 Tryd.f6 rfl rfl rfl rfl rfl rfl rfl ⟨rfl, rfl, rfl, rfl, rfl⟩ rfl rfl rfl rfl rfl (by kernel_rfl) Tryd.func6 (by kernel_rfl)
    (of_decide_eq_true (by kernel_rfl)) (by unfold Func.isWrapper; rw [if_neg (of_decide_eq_false (by kernel_rfl))]; exact ⟨rfl, rfl⟩)
    (fun os started H enc _ => lifted os started H enc)

theorem proved : Rows.MsgsAsksCardSaid :=
  Claim7.holds_tied_plain_at .later [] Rows.msgsAsksCard.laidKinds true Rows.msgsAsksCard.stood.harness Rows.msgsAsksCard.stood.looks
    over (fun _ h => by cases h) (by kernel_rfl) (fun _ h => by cases h) msgsAsks_row_tie rfl ⟨rfl, rfl⟩ (by kernel_rfl) rfl
    (fun f fn hf hfn => by
      obtain rfl : f = 6 := Option.some.inj ((show Tryd.prog.funcNamed "aumbry/aumbrylaw17.MsgsAsks" = some 6 by kernel_rfl).symm.trans hf) |>.symm
      obtain rfl : fn = Tryd.f6 := (Option.some.inj (Tryd.func6.symm.trans hfn)).symm
      exact ⟨by kernel_rfl, fun j t ht => by
        have ht' : Tryd.f6.params[j]? = some t := ht
        rw [Tryd.params6] at ht'
        have hm : t ∈ [31, 26] := by simpa using Array.mem_of_getElem? ht'
        have hall : ([31, 26].all fun u => !Tryd.prog.wantsStandIn u) = true := by kernel_rfl
        exact (show Tryd.prog.wantsStandIn t = false by simpa using List.all_eq_true.1 hall t hm)⟩)
    (by kernel_rfl)
end Go.Proofs.YtfinfkodjkfibaaDoor.LawMsgsAsks
