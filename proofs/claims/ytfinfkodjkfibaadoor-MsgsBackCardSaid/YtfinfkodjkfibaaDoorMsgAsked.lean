/- msgs.Asked: the request of bytes. Condition: the table of powers of ten stands; at most 2^40 bytes. -/
import Derived.Test.YtfinfkodjkfibaaDoorMsgAsk
import Derived.Test.YtfinfkodjkfibaaDoorHeldAll
import Derived.Test.YtfinfkodjkfibaaDoorReqAll
import Derived.Test.YtfinfkodjkfibaaDoorMsgSaid
import Derived.Test.YtfinfkodjkfibaaDoorAskDefs
import Derived.Deep.DeepCutAuto
import Derived.Deep.CutBlock
namespace Go.Proofs.YtfinfkodjkfibaaDoor
open Go Go.RowKit
set_option linter.unusedVariables false
set_option linter.unusedSimpArgs false
set_option maxRecDepth 100000
def AskedMid (w : World) (g0 g4 : Nat) (QQ : Msg.Req) (s5 : Msg.St) (v5 : Value) (wx : World) : Prop :=
  ∃ g5, v5 = .pointer (some ⟨g5, 0, none⟩) ∧ ReqB wx g5 QQ (.slice none 0 0) (.slice none 0 0) ∧ RdrAt wx g4 g0 s5 ∧ ReqB wx g0 req0 (.slice none 0 0) (.slice none 0 0) ∧ Below g0 w wx ∧ g4 < g5
set_option maxHeartbeats 16000000
theorem Asked_any (v : Value) (b : List Int) (w : World) (hv : Bs w w.heap.size v b) (hb : Bytes b) (hl : b.length ≤ 1099511627776) (ht : Tab w w.heap.size) :
    Calls Tryd.prog 23 #[v] w fun e w' => AskedRes w w' e (Msg.askedP b) := by
  have HV := hide hv
  have HT := hide ht
  have HBY := hide hb
  have HL := hide hl
  obtain ⟨A, c, rfl, h1, h2, _⟩ := hv.open_
  obtain ⟨r, HRR⟩ : ∃ x, Hid (Msg.askedP b = x) := ⟨_, hide rfl⟩
  rw [HRR.out]
  have hsp := Msg.askedP_letters b _ _ _ _ _ _ _ (show Msg.readP b = ⟨Msg.rK b, Msg.rI b, Msg.rS b, Msg.rE b, Msg.rN b, Msg.rT b, Msg.rB b⟩ by rw [Msg.readP])
  rw [HRR.out] at hsp
  have hri := Msg.asked_right_letters b _ _ _ _ _ _ _ (show Msg.readP b = ⟨Msg.rK b, Msg.rI b, Msg.rS b, Msg.rE b, Msg.rN b, Msg.rT b, Msg.rB b⟩ by rw [Msg.readP]) hb
  have C0 := hide (fun (w' : World) (g B0 : Nat) (h : RdrAt w' g B0 ⟨b, false⟩) => num_any 1 (by omega) ⟨b, false⟩ w' g B0 h)
  have C1 := hide (fun (w' : World) (g B0 : Nat) (h : RdrAt w' g B0 (Msg.rK b).2) => row_any 16 (Msg.rK b).2 w' g B0 h (by omega))
  have C2 := hide (fun (w' : World) (g B0 : Nat) (h : RdrAt w' g B0 (Msg.rI b).2) => row_any 16 (Msg.rI b).2 w' g B0 h (by omega))
  have C3 := hide (fun (w' : World) (g B0 : Nat) (h : RdrAt w' g B0 (Msg.rS b).2) => num_any 4 (by omega) (Msg.rS b).2 w' g B0 h)
  have C4 := hide (fun (w' : World) (g B0 : Nat) (h : RdrAt w' g B0 (Msg.rE b).2) => row_any 16 (Msg.rE b).2 w' g B0 h (by omega))
  rw [← Msg.rK] at C0
  rw [← Msg.rI] at C1
  rw [← Msg.rS] at C2
  rw [← Msg.rE] at C3
  rw [← Msg.rN] at C4
  have HIL := hide (show (Msg.rI b).1.length = 16 by rw [Msg.rI]; exact rowP_len16 _)
  have HSL := hide (show (Msg.rS b).1.length = 16 by rw [Msg.rS]; exact rowP_len16 _)
  have HEL := hide (show (Msg.rN b).1.length = 16 by rw [Msg.rN]; exact rowP_len16 _)
  have HCN := hide (fun (w' : World) (g B0 : Nat) (h : RdrAt w' g B0 (Msg.rN b).2) => count_any (Msg.rN b).2 w' g B0 h)
  rw [← Msg.rC] at HCN
  have HTN := hide (show Msg.rT b = Msg.testsN (Msg.rC b).1.toNat (Msg.rC b).2 by rw [Msg.rT])
  have HBN := hide (show Msg.rB b = Msg.blobsP (Msg.rT b).2 by rw [Msg.rB])
  have HC32 := hide (show 0 ≤ (Msg.rC b).1 ∧ (Msg.rC b).1 ≤ 32 by rw [Msg.rC]; exact countP_range _)
  generalize Msg.rK b = P1 at *
  generalize Msg.rI b = P2 at *
  generalize Msg.rS b = P3 at *
  generalize Msg.rE b = P4 at *
  generalize Msg.rN b = P5 at *
  generalize Msg.rC b = P6 at *
  generalize Msg.rT b = P7 at *
  generalize Msg.rB b = P8 at *
  obtain ⟨k0, s1⟩ := P1
  obtain ⟨i0, s2⟩ := P2
  obtain ⟨sc, s3⟩ := P3
  obtain ⟨e0, s4⟩ := P4
  obtain ⟨en, s5⟩ := P5
  obtain ⟨n6, s6⟩ := P6
  obtain ⟨ts, s7⟩ := P7
  obtain ⟨bl, s8⟩ := P8
  simp only at hsp hri C0 C1 C2 C3 C4 HIL HSL HEL HCN HTN HBN HC32
  obtain ⟨QQ, HQQ⟩ : ∃ q : Msg.Req, Hid (⟨k0, i0, sc, e0, en, [], []⟩ = q) := ⟨_, hide rfl⟩
  have HQK := hide (show KeysR QQ from by rw [← HQQ.out]; exact ⟨HIL.out, HSL.out, HEL.out⟩)
  have HBQ := hide (built_req5 k0 e0 i0 sc en HIL.out HSL.out HEL.out)
  rw [HQQ.out] at HBQ
  have HBAD := hide (fun (_ : Nat) (h : s8.bad = true ∨ k0 < 1 ∨ 6 < k0 ∨ 1048576 < e0) => show r = none by rw [hsp, if_pos h])
  have HRIG := hide (fun (_ : Nat) (h : ¬ (s8.bad = true ∨ k0 < 1 ∨ 6 < k0 ∨ 1048576 < e0)) => show Msg.RightR ⟨k0, i0, sc, e0, en, ts, bl⟩ from hri h)
  have HYES := hide (fun (_ : Nat) (h : ¬ (s8.bad = true ∨ k0 < 1 ∨ 6 < k0 ∨ 1048576 < e0)) (h' : Msg.askF ⟨k0, i0, sc, e0, en, ts, bl⟩ = some b) => show r = some ⟨k0, i0, sc, e0, en, ts, bl⟩ by rw [hsp, if_neg h, if_pos h'])
  have HNO := hide (fun (_ : Nat) (h : ¬ (s8.bad = true ∨ k0 < 1 ∨ 6 < k0 ∨ 1048576 < e0)) (h' : ¬ Msg.askF ⟨k0, i0, sc, e0, en, ts, bl⟩ = some b) => show r = none by rw [hsp, if_neg h, if_neg h'])
  obtain ⟨n, HN⟩ : ∃ n, Hid (b.length = n) := ⟨_, hide rfl⟩
  have HV' := HV
  rw [HN.out] at h1 HV ⊢
  unfold maxLen at h2
  clear hv ht hb hl hsp hri HRR
  obtain ⟨g0, HG⟩ : ∃ k, Hid (w.heap.size = k) := ⟨_, hide rfl⟩
  go_enter Tryd.func23, Tryd.ntmps23
  go_upto_region 2 with (first
    | (refine wpList_rq_zero rfl rfl ?_; intro w1 hb1 hw1 hs1; rw [HG.out] at hb1 hw1 hs1; try rw [HG.out]; have HR := hide hb1; have HW := hide hw1; clear hb1 hw1)
    | (refine wpList_st_build 69 _ rfl rfl [Value.slice A n c, .bool false] (built_reader A n c) ?_)
    | (refine wpList_st_box _ rfl [Value.slice A n c, .bool false] rfl rfl ?_; intro w2 hb2 hw2 hs2; rw [hs1] at hb2 hw2 hs2; try rw [hs1]; have HK := hide hb2; replace HR := hide (HR.out.below hw2 (by omega)); replace HW := hide (HW.out.trans (hw2.mono (by omega))); clear hb2 hw2))
  have HRD := hide (show RdrAt w2 (g0 + 1) g0 ⟨b, false⟩ from ⟨_, HK.out, ⟨.inl (by have hg0 := HG.out; have := (HV'.out.below (HW.out.mono (by omega : w.heap.size ≤ g0)) (Nat.le_refl _)).more (by omega : w.heap.size ≤ g0); rw [HN.out] at this; exact this), by omega⟩, HBY.out, HL.out⟩)
  have hw0 : g0 ≤ w.heap.size := by have := HG.out; omega
  generalize hg4 : g0 + 1 = g4 at HRD ⊢
  have hg04 : g0 < g4 := by omega
  clear hs1 hs2 HK hg4
  go_cut [5] from 12 to 28 (fun v5 wx => AskedMid w g0 g4 QQ s5 v5 wx)
  case first =>
    refine wp_region_held_drew (S := fun w' => Gr g4 w2 w') (by kernel_rfl) ⟨Nat.le_refl _, fun _ _ _ _ => rfl⟩ (fun hHeld0 => ?_)
    replace HRD := hide (HRD.out.far (Below.refl _ _).drew)
    replace HR := hide (HR.out.drew)
    replace HW := hide (HW.out.drew)
    have hHeld := Gr.refl g4 w2.drew
    refine wpAnyH_more (S' := fun w' => Gr g4 w2.drew w') (fun w' h => hHeld0.trans h) ?_
    generalize w2.drew = wd at *
    have hlt4 : g4 < wd.heap.size := HRD.out.lt
    have hwd := HW.out.size
    clear hHeld0
    refine take_d 12 (i := 0) (v := .pointer (some ⟨g4, 0, none⟩)) rfl (by kernel_rfl) (by kernel_rfl) (by kernel_rfl) (by kernel_rfl) (fun _ _ _ h => h) (Or.inl ⟨by kernel_rfl, fun w' hS => exec_move _ rfl (.pointer (some ⟨g4, 0, none⟩)) rfl⟩) hHeld ?_
    try simp only [Act.put, List.setIfInBounds_toArray, List.set_cons_zero, List.set_cons_succ]
    refine take_d 14 (i := 2) (v := .pointer (some ⟨g4, 0, none⟩)) rfl (by kernel_rfl) (by kernel_rfl) (by kernel_rfl) (by kernel_rfl) (fun _ _ _ h => h) (Or.inl ⟨by kernel_rfl, fun w' hS => exec_move _ rfl (.pointer (some ⟨g4, 0, none⟩)) rfl⟩) hHeld ?_
    try simp only [Act.put, List.setIfInBounds_toArray, List.set_cons_zero, List.set_cons_succ]
    refine take_d 18 (i := 6) (v := .pointer (some ⟨g4, 0, none⟩)) rfl (by kernel_rfl) (by kernel_rfl) (by kernel_rfl) (by kernel_rfl) (fun _ _ _ h => h) (Or.inl ⟨by kernel_rfl, fun w' hS => exec_move _ rfl (.pointer (some ⟨g4, 0, none⟩)) rfl⟩) hHeld ?_
    try simp only [Act.put, List.setIfInBounds_toArray, List.set_cons_zero, List.set_cons_succ]
    refine take_d 22 (i := 10) (v := .pointer (some ⟨g4, 0, none⟩)) rfl (by kernel_rfl) (by kernel_rfl) (by kernel_rfl) (by kernel_rfl) (fun _ _ _ h => h) (Or.inl ⟨by kernel_rfl, fun w' hS => exec_move _ rfl (.pointer (some ⟨g4, 0, none⟩)) rfl⟩) hHeld ?_
    try simp only [Act.put, List.setIfInBounds_toArray, List.set_cons_zero, List.set_cons_succ]
    refine take_d 24 (i := 12) (v := .pointer (some ⟨g4, 0, none⟩)) rfl (by kernel_rfl) (by kernel_rfl) (by kernel_rfl) (by kernel_rfl) (fun _ _ _ h => h) (Or.inl ⟨by kernel_rfl, fun w' hS => exec_move _ rfl (.pointer (some ⟨g4, 0, none⟩)) rfl⟩) hHeld ?_
    try simp only [Act.put, List.setIfInBounds_toArray, List.set_cons_zero, List.set_cons_succ]
    refine wpAnyH_ready (rs := [1, 17]) (by kernel_rfl) (by simp) (AllReadyH.cons rfl (fun K hK => ?q1_1) (AllReadyH.cons rfl (fun K hK => ?q2_17) AllReadyH.nil))
    case q1_1 =>
      rw [if_pos (by kernel_rfl)]
      try go_simp
      refine (C0.out _ _ _ HRD.out).mono ?_
      rintro e w13 ⟨rfl, hr13, hg13⟩
      replace HRD := hide hr13
      have hzw13 := hg13.size
      have HX := hide (hHeld.trans (Gr.of hg13))
      try replace HZ := hide (HZ.out.grown hg13 (by have := HZ.out.lt; intro e; injection e; omega))
      replace HR := hide (HR.out.grown hg13 (by intro e; injection e; omega))
      replace HW := hide (HW.out.grown hg13 (by have := HW.out.size; omega) (by intro k hk; injection hk; omega))
      clear hr13 hg13
      refine hK.out _ _ HX.out (fun _ => ?_)
      refine wpAnyH_more (S' := fun w' => Gr g4 w13 w') (fun w' h => HX.out.trans h) ?_
      clear HX hK K hHeld
      have hHeld := Gr.refl g4 w13
      try simp only [Act.put, List.setIfInBounds_toArray, List.set_cons_zero, List.set_cons_succ]
      refine wpAnyH_ready (rs := [3, 17]) (by kernel_rfl) (by simp) (AllReadyH.cons rfl (fun K hK => ?q3_3) (AllReadyH.cons rfl (fun K hK => ?q4_17) AllReadyH.nil))
      case q3_3 =>
        rw [if_pos (by kernel_rfl)]
        try go_simp
        refine (C1.out _ _ _ HRD.out).mono ?_
        rintro e w15 ⟨v15, rfl, ho15, hr15, hg15⟩
        replace HRD := hide hr15
        have hzw15 := hg15.size
        have HX := hide (hHeld.trans (Gr.of hg15))
        try replace HZ := hide (HZ.out.grown hg15 (by have := HZ.out.lt; intro e; injection e; omega))
        replace HR := hide (HR.out.grown hg15 (by intro e; injection e; omega))
        replace HW := hide (HW.out.grown hg15 (by have := HW.out.size; omega) (by intro k hk; injection hk; omega))
        obtain ⟨g15, c15, rfl, hgb15, hrg15, hnr15⟩ := ho15.blockOf (by rw [HIL.out]; omega)
        have HRG15 := hide hrg15
        rw [HIL.out]
        have hgn15 : g4 < g15 := (by omega)
        clear hr15 hg15 ho15 hrg15
        refine hK.out _ _ HX.out (fun _ => ?_)
        refine wpAnyH_more (S' := fun w' => Gr g4 w15 w') (fun w' h => HX.out.trans h) ?_
        clear HX hK K hHeld
        have hHeld := Gr.refl g4 w15
        try simp only [Act.put, List.setIfInBounds_toArray, List.set_cons_zero, List.set_cons_succ]
        refine take_d 16 (i := 4) (v := .pointer (some ⟨g15, 0, none⟩)) rfl (by kernel_rfl) (by kernel_rfl) (by kernel_rfl) (by kernel_rfl) (fun _ _ _ h => h) (Or.inl ⟨by kernel_rfl, fun w' hS => exec_arrayAtG _ _ rfl _ 16 (some ⟨g15, 0, none⟩) 16 c15 rfl Tryd.underlying28 (by omega)⟩) hHeld ?_
        try simp only [Act.put, List.setIfInBounds_toArray, List.set_cons_zero, List.set_cons_succ]
        refine take_d 17 (i := 5) (v := .agg (u8s i0).toArray) rfl (by kernel_rfl) (by kernel_rfl) (by kernel_rfl) (by kernel_rfl) (fun _ _ _ h => h) (Or.inl ⟨by kernel_rfl, fun w' hS => exec_loadAll _ _ rfl g15 0 rfl _ _ (fun j v hj => (World.cell?_of_block (hS.block g15 (by omega) (by omega) hnr15)).trans (HRG15.out j v hj)) Tryd.underlying28 rfl (by rw [u8s_len, HIL.out]; exact size_key16)⟩) hHeld ?_
        try simp only [Act.put, List.setIfInBounds_toArray, List.set_cons_zero, List.set_cons_succ]
        refine wpAnyH_ready (rs := [7, 17]) (by kernel_rfl) (by simp) (AllReadyH.cons rfl (fun K hK => ?q5_7) (AllReadyH.cons rfl (fun K hK => ?q6_17) AllReadyH.nil))
        case q5_7 =>
          rw [if_pos (by kernel_rfl)]
          try go_simp
          refine (C2.out _ _ _ HRD.out).mono ?_
          rintro e w19 ⟨v19, rfl, ho19, hr19, hg19⟩
          replace HRD := hide hr19
          have hzw19 := hg19.size
          have HX := hide (hHeld.trans (Gr.of hg19))
          try replace HZ := hide (HZ.out.grown hg19 (by have := HZ.out.lt; intro e; injection e; omega))
          replace HR := hide (HR.out.grown hg19 (by intro e; injection e; omega))
          replace HW := hide (HW.out.grown hg19 (by have := HW.out.size; omega) (by intro k hk; injection hk; omega))
          obtain ⟨g19, c19, rfl, hgb19, hrg19, hnr19⟩ := ho19.blockOf (by rw [HSL.out]; omega)
          have HRG19 := hide hrg19
          rw [HSL.out]
          have hgn19 : g4 < g19 := (by omega)
          clear hr19 hg19 ho19 hrg19
          refine hK.out _ _ HX.out (fun _ => ?_)
          refine wpAnyH_more (S' := fun w' => Gr g4 w19 w') (fun w' h => HX.out.trans h) ?_
          clear HX hK K hHeld
          have hHeld := Gr.refl g4 w19
          try simp only [Act.put, List.setIfInBounds_toArray, List.set_cons_zero, List.set_cons_succ]
          refine take_d 20 (i := 8) (v := .pointer (some ⟨g19, 0, none⟩)) rfl (by kernel_rfl) (by kernel_rfl) (by kernel_rfl) (by kernel_rfl) (fun _ _ _ h => h) (Or.inl ⟨by kernel_rfl, fun w' hS => exec_arrayAtG _ _ rfl _ 16 (some ⟨g19, 0, none⟩) 16 c19 rfl Tryd.underlying28 (by omega)⟩) hHeld ?_
          try simp only [Act.put, List.setIfInBounds_toArray, List.set_cons_zero, List.set_cons_succ]
          refine take_d 21 (i := 9) (v := .agg (u8s sc).toArray) rfl (by kernel_rfl) (by kernel_rfl) (by kernel_rfl) (by kernel_rfl) (fun _ _ _ h => h) (Or.inl ⟨by kernel_rfl, fun w' hS => exec_loadAll _ _ rfl g19 0 rfl _ _ (fun j v hj => (World.cell?_of_block (hS.block g19 (by omega) (by omega) hnr19)).trans (HRG19.out j v hj)) Tryd.underlying28 rfl (by rw [u8s_len, HSL.out]; exact size_key16)⟩) hHeld ?_
          try simp only [Act.put, List.setIfInBounds_toArray, List.set_cons_zero, List.set_cons_succ]
          refine wpAnyH_ready (rs := [11, 17]) (by kernel_rfl) (by simp) (AllReadyH.cons rfl (fun K hK => ?q7_11) (AllReadyH.cons rfl (fun K hK => ?q8_17) AllReadyH.nil))
          case q7_11 =>
            rw [if_pos (by kernel_rfl)]
            try go_simp
            refine (C3.out _ _ _ HRD.out).mono ?_
            rintro e w23 ⟨rfl, hr23, hg23⟩
            replace HRD := hide hr23
            have hzw23 := hg23.size
            have HX := hide (hHeld.trans (Gr.of hg23))
            try replace HZ := hide (HZ.out.grown hg23 (by have := HZ.out.lt; intro e; injection e; omega))
            replace HR := hide (HR.out.grown hg23 (by intro e; injection e; omega))
            replace HW := hide (HW.out.grown hg23 (by have := HW.out.size; omega) (by intro k hk; injection hk; omega))
            clear hr23 hg23
            refine hK.out _ _ HX.out (fun _ => ?_)
            refine wpAnyH_more (S' := fun w' => Gr g4 w23 w') (fun w' h => HX.out.trans h) ?_
            clear HX hK K hHeld
            have hHeld := Gr.refl g4 w23
            try simp only [Act.put, List.setIfInBounds_toArray, List.set_cons_zero, List.set_cons_succ]
            refine wpAnyH_ready (rs := [13, 17]) (by kernel_rfl) (by simp) (AllReadyH.cons rfl (fun K hK => ?q9_13) (AllReadyH.cons rfl (fun K hK => ?q10_17) AllReadyH.nil))
            case q9_13 =>
              rw [if_pos (by kernel_rfl)]
              try go_simp
              refine (C4.out _ _ _ HRD.out).mono ?_
              rintro e w25 ⟨v25, rfl, ho25, hr25, hg25⟩
              replace HRD := hide hr25
              have hzw25 := hg25.size
              have HX := hide (hHeld.trans (Gr.of hg25))
              try replace HZ := hide (HZ.out.grown hg25 (by have := HZ.out.lt; intro e; injection e; omega))
              replace HR := hide (HR.out.grown hg25 (by intro e; injection e; omega))
              replace HW := hide (HW.out.grown hg25 (by have := HW.out.size; omega) (by intro k hk; injection hk; omega))
              obtain ⟨g25, c25, rfl, hgb25, hrg25, hnr25⟩ := ho25.blockOf (by rw [HEL.out]; omega)
              have HRG25 := hide hrg25
              rw [HEL.out]
              have hgn25 : g4 < g25 := (by omega)
              clear hr25 hg25 ho25 hrg25
              refine hK.out _ _ HX.out (fun _ => ?_)
              refine wpAnyH_more (S' := fun w' => Gr g4 w25 w') (fun w' h => HX.out.trans h) ?_
              clear HX hK K hHeld
              have hHeld := Gr.refl g4 w25
              try simp only [Act.put, List.setIfInBounds_toArray, List.set_cons_zero, List.set_cons_succ]
              refine take_d 26 (i := 14) (v := .pointer (some ⟨g25, 0, none⟩)) rfl (by kernel_rfl) (by kernel_rfl) (by kernel_rfl) (by kernel_rfl) (fun _ _ _ h => h) (Or.inl ⟨by kernel_rfl, fun w' hS => exec_arrayAtG _ _ rfl _ 16 (some ⟨g25, 0, none⟩) 16 c25 rfl Tryd.underlying28 (by omega)⟩) hHeld ?_
              try simp only [Act.put, List.setIfInBounds_toArray, List.set_cons_zero, List.set_cons_succ]
              refine take_d 27 (i := 15) (v := .agg (u8s en).toArray) rfl (by kernel_rfl) (by kernel_rfl) (by kernel_rfl) (by kernel_rfl) (fun _ _ _ h => h) (Or.inl ⟨by kernel_rfl, fun w' hS => exec_loadAll _ _ rfl g25 0 rfl _ _ (fun j v hj => (World.cell?_of_block (hS.block g25 (by omega) (by omega) hnr25)).trans (HRG25.out j v hj)) Tryd.underlying28 rfl (by rw [u8s_len, HEL.out]; exact size_key16)⟩) hHeld ?_
              try simp only [Act.put, List.setIfInBounds_toArray, List.set_cons_zero, List.set_cons_succ]
              refine take_d 28 (i := 16) (v := .agg (reqCells QQ (.slice none 0 0) (.slice none 0 0)).toArray) rfl (by kernel_rfl) (by kernel_rfl) (by kernel_rfl) (by kernel_rfl) (fun _ _ _ h => h) (Or.inl ⟨by kernel_rfl, fun w' hS => (exec_build5 _ _ _ _ _ _ _ _ _ _ _ rfl _ _ _ _ _ rfl rfl rfl rfl rfl _ HBQ.out)⟩) hHeld ?_
              try simp only [Act.put, List.setIfInBounds_toArray, List.set_cons_zero, List.set_cons_succ]
              refine wpAnyH_ready (rs := [17]) (by kernel_rfl) (by simp) (AllReadyH.cons rfl (fun K hK => ?_) AllReadyH.nil)
              rw [if_pos (by kernel_rfl)]
              refine wp_alloc_blkG 31 5 rfl rfl _ zero_req ?_
              intro g5 w5 hg5 hb5 hw5
              have HZ := hide (show ReqB w5 g5 req0 (.slice none 0 0) (.slice none 0 0) from ⟨hb5, req0_keys, rfl, rfl⟩)
              have hgz : g4 < g5 := (by have := HRD.out.lt; omega)
              replace HRD := hide (HRD.out.far hw5)
              have hzw5 := hw5.size
              have HX := hide (hHeld.trans (Gr.of (grown_below (row := some g4) hw5)))
              replace HR := hide (HR.out.grown (grown_below (row := some g4) hw5) (by intro e; injection e; omega))
              replace HW := hide (HW.out.grown (grown_below (row := some g4) hw5) (by have := HW.out.size; omega) (by intro k hk; injection hk; omega))
              clear hb5 hw5
              refine hK.out _ _ HX.out (fun _ => ?_)
              refine wpAnyH_more (S' := fun w' => Gr g4 w5 w') (fun w' h => HX.out.trans h) ?_
              clear HX hK K hHeld
              have hHeld := Gr.refl g4 w5
              try simp only [Act.put, List.setIfInBounds_toArray, List.set_cons_zero, List.set_cons_succ]
              refine wpAnyH_ready (rs := [18]) (by kernel_rfl) (by simp) (AllReadyH.cons rfl (fun K hK => ?_) AllReadyH.nil)
              rw [if_pos (by kernel_rfl)]
              refine wp_store_blkD 31 _ _ rfl rfl g5 0 (reqCells QQ (.slice none 0 0) (.slice none 0 0)) rfl rfl _ _ HZ.out.blk (by rw [rq_len HZ.out.keys, rq_len HQK.out]; omega) (by rw [rq_len HQK.out]; exact size_req) (rq_one rfl rfl) ?_
              intro ws hbs hgs hss
              have HZ2 := hide (show ReqB ws g5 QQ (.slice none 0 0) (.slice none 0 0) from ⟨(by rw [lset_all _ _ (by rw [rq_len HZ.out.keys, rq_len HQK.out])] at hbs; exact hbs), HQK.out, rfl, rfl⟩)
              have HRD2 := hide (HRD.out.pastT HZ.out.blk (by decide) hgs hgz)
              have HR2 := hide (HR.out.grown hgs (by intro e; injection e; omega))
              have HW2 := hide (HW.out.grown hgs (by have := HW.out.size; omega) (by intro k hk; injection hk; omega))
              refine hK.out _ _ (hHeld.trans (Gr.req hgs HZ.out.blk)) (fun _ => ?_)
              clear hK K hbs hgs hss
              try simp only [Act.put, List.setIfInBounds_toArray, List.set_cons_zero, List.set_cons_succ]
              refine wpAnyH_done (by kernel_rfl) ?_ _
              go_wp2_with fail
              go_meet
              exact ⟨_, rfl, HZ2.out, HRD2.out, HR2.out, HW2.out, hgz⟩
            case q10_17 =>
              rw [if_pos (by kernel_rfl)]
              refine wp_alloc_blkG 31 5 rfl rfl _ zero_req ?_
              intro g5 w5 hg5 hb5 hw5
              have HZ := hide (show ReqB w5 g5 req0 (.slice none 0 0) (.slice none 0 0) from ⟨hb5, req0_keys, rfl, rfl⟩)
              have hgz : g4 < g5 := (by have := HRD.out.lt; omega)
              replace HRD := hide (HRD.out.far hw5)
              have hzw5 := hw5.size
              have HX := hide (hHeld.trans (Gr.of (grown_below (row := some g4) hw5)))
              replace HR := hide (HR.out.grown (grown_below (row := some g4) hw5) (by intro e; injection e; omega))
              replace HW := hide (HW.out.grown (grown_below (row := some g4) hw5) (by have := HW.out.size; omega) (by intro k hk; injection hk; omega))
              clear hb5 hw5
              refine hK.out _ _ HX.out (fun _ => ?_)
              refine wpAnyH_more (S' := fun w' => Gr g4 w5 w') (fun w' h => HX.out.trans h) ?_
              clear HX hK K hHeld
              have hHeld := Gr.refl g4 w5
              try simp only [Act.put, List.setIfInBounds_toArray, List.set_cons_zero, List.set_cons_succ]
              refine wpAnyH_ready (rs := [13]) (by kernel_rfl) (by simp) (AllReadyH.cons rfl (fun K hK => ?_) AllReadyH.nil)
              rw [if_pos (by kernel_rfl)]
              try go_simp
              refine (C4.out _ _ _ HRD.out).mono ?_
              rintro e w25 ⟨v25, rfl, ho25, hr25, hg25⟩
              replace HRD := hide hr25
              have hzw25 := hg25.size
              have HX := hide (hHeld.trans (Gr.of hg25))
              try replace HZ := hide (HZ.out.grown hg25 (by have := HZ.out.lt; intro e; injection e; omega))
              replace HR := hide (HR.out.grown hg25 (by intro e; injection e; omega))
              replace HW := hide (HW.out.grown hg25 (by have := HW.out.size; omega) (by intro k hk; injection hk; omega))
              obtain ⟨g25, c25, rfl, hgb25, hrg25, hnr25⟩ := ho25.blockOf (by rw [HEL.out]; omega)
              have HRG25 := hide hrg25
              rw [HEL.out]
              have hgn25 : g4 < g25 := (by omega)
              clear hr25 hg25 ho25 hrg25
              refine hK.out _ _ HX.out (fun _ => ?_)
              refine wpAnyH_more (S' := fun w' => Gr g4 w25 w') (fun w' h => HX.out.trans h) ?_
              clear HX hK K hHeld
              have hHeld := Gr.refl g4 w25
              try simp only [Act.put, List.setIfInBounds_toArray, List.set_cons_zero, List.set_cons_succ]
              refine take_d 26 (i := 14) (v := .pointer (some ⟨g25, 0, none⟩)) rfl (by kernel_rfl) (by kernel_rfl) (by kernel_rfl) (by kernel_rfl) (fun _ _ _ h => h) (Or.inl ⟨by kernel_rfl, fun w' hS => exec_arrayAtG _ _ rfl _ 16 (some ⟨g25, 0, none⟩) 16 c25 rfl Tryd.underlying28 (by omega)⟩) hHeld ?_
              try simp only [Act.put, List.setIfInBounds_toArray, List.set_cons_zero, List.set_cons_succ]
              refine take_d 27 (i := 15) (v := .agg (u8s en).toArray) rfl (by kernel_rfl) (by kernel_rfl) (by kernel_rfl) (by kernel_rfl) (fun _ _ _ h => h) (Or.inl ⟨by kernel_rfl, fun w' hS => exec_loadAll _ _ rfl g25 0 rfl _ _ (fun j v hj => (World.cell?_of_block (hS.block g25 (by omega) (by omega) hnr25)).trans (HRG25.out j v hj)) Tryd.underlying28 rfl (by rw [u8s_len, HEL.out]; exact size_key16)⟩) hHeld ?_
              try simp only [Act.put, List.setIfInBounds_toArray, List.set_cons_zero, List.set_cons_succ]
              refine take_d 28 (i := 16) (v := .agg (reqCells QQ (.slice none 0 0) (.slice none 0 0)).toArray) rfl (by kernel_rfl) (by kernel_rfl) (by kernel_rfl) (by kernel_rfl) (fun _ _ _ h => h) (Or.inl ⟨by kernel_rfl, fun w' hS => (exec_build5 _ _ _ _ _ _ _ _ _ _ _ rfl _ _ _ _ _ rfl rfl rfl rfl rfl _ HBQ.out)⟩) hHeld ?_
              try simp only [Act.put, List.setIfInBounds_toArray, List.set_cons_zero, List.set_cons_succ]
              refine wpAnyH_ready (rs := [18]) (by kernel_rfl) (by simp) (AllReadyH.cons rfl (fun K hK => ?_) AllReadyH.nil)
              rw [if_pos (by kernel_rfl)]
              refine wp_store_blkD 31 _ _ rfl rfl g5 0 (reqCells QQ (.slice none 0 0) (.slice none 0 0)) rfl rfl _ _ HZ.out.blk (by rw [rq_len HZ.out.keys, rq_len HQK.out]; omega) (by rw [rq_len HQK.out]; exact size_req) (rq_one rfl rfl) ?_
              intro ws hbs hgs hss
              have HZ2 := hide (show ReqB ws g5 QQ (.slice none 0 0) (.slice none 0 0) from ⟨(by rw [lset_all _ _ (by rw [rq_len HZ.out.keys, rq_len HQK.out])] at hbs; exact hbs), HQK.out, rfl, rfl⟩)
              have HRD2 := hide (HRD.out.pastT HZ.out.blk (by decide) hgs hgz)
              have HR2 := hide (HR.out.grown hgs (by intro e; injection e; omega))
              have HW2 := hide (HW.out.grown hgs (by have := HW.out.size; omega) (by intro k hk; injection hk; omega))
              refine hK.out _ _ (hHeld.trans (Gr.req hgs HZ.out.blk)) (fun _ => ?_)
              clear hK K hbs hgs hss
              try simp only [Act.put, List.setIfInBounds_toArray, List.set_cons_zero, List.set_cons_succ]
              refine wpAnyH_done (by kernel_rfl) ?_ _
              go_wp2_with fail
              go_meet
              exact ⟨_, rfl, HZ2.out, HRD2.out, HR2.out, HW2.out, hgz⟩
          case q8_17 =>
            rw [if_pos (by kernel_rfl)]
            refine wp_alloc_blkG 31 5 rfl rfl _ zero_req ?_
            intro g5 w5 hg5 hb5 hw5
            have HZ := hide (show ReqB w5 g5 req0 (.slice none 0 0) (.slice none 0 0) from ⟨hb5, req0_keys, rfl, rfl⟩)
            have hgz : g4 < g5 := (by have := HRD.out.lt; omega)
            replace HRD := hide (HRD.out.far hw5)
            have hzw5 := hw5.size
            have HX := hide (hHeld.trans (Gr.of (grown_below (row := some g4) hw5)))
            replace HR := hide (HR.out.grown (grown_below (row := some g4) hw5) (by intro e; injection e; omega))
            replace HW := hide (HW.out.grown (grown_below (row := some g4) hw5) (by have := HW.out.size; omega) (by intro k hk; injection hk; omega))
            clear hb5 hw5
            refine hK.out _ _ HX.out (fun _ => ?_)
            refine wpAnyH_more (S' := fun w' => Gr g4 w5 w') (fun w' h => HX.out.trans h) ?_
            clear HX hK K hHeld
            have hHeld := Gr.refl g4 w5
            try simp only [Act.put, List.setIfInBounds_toArray, List.set_cons_zero, List.set_cons_succ]
            refine wpAnyH_ready (rs := [11]) (by kernel_rfl) (by simp) (AllReadyH.cons rfl (fun K hK => ?_) AllReadyH.nil)
            rw [if_pos (by kernel_rfl)]
            try go_simp
            refine (C3.out _ _ _ HRD.out).mono ?_
            rintro e w23 ⟨rfl, hr23, hg23⟩
            replace HRD := hide hr23
            have hzw23 := hg23.size
            have HX := hide (hHeld.trans (Gr.of hg23))
            try replace HZ := hide (HZ.out.grown hg23 (by have := HZ.out.lt; intro e; injection e; omega))
            replace HR := hide (HR.out.grown hg23 (by intro e; injection e; omega))
            replace HW := hide (HW.out.grown hg23 (by have := HW.out.size; omega) (by intro k hk; injection hk; omega))
            clear hr23 hg23
            refine hK.out _ _ HX.out (fun _ => ?_)
            refine wpAnyH_more (S' := fun w' => Gr g4 w23 w') (fun w' h => HX.out.trans h) ?_
            clear HX hK K hHeld
            have hHeld := Gr.refl g4 w23
            try simp only [Act.put, List.setIfInBounds_toArray, List.set_cons_zero, List.set_cons_succ]
            refine wpAnyH_ready (rs := [13]) (by kernel_rfl) (by simp) (AllReadyH.cons rfl (fun K hK => ?_) AllReadyH.nil)
            rw [if_pos (by kernel_rfl)]
            try go_simp
            refine (C4.out _ _ _ HRD.out).mono ?_
            rintro e w25 ⟨v25, rfl, ho25, hr25, hg25⟩
            replace HRD := hide hr25
            have hzw25 := hg25.size
            have HX := hide (hHeld.trans (Gr.of hg25))
            try replace HZ := hide (HZ.out.grown hg25 (by have := HZ.out.lt; intro e; injection e; omega))
            replace HR := hide (HR.out.grown hg25 (by intro e; injection e; omega))
            replace HW := hide (HW.out.grown hg25 (by have := HW.out.size; omega) (by intro k hk; injection hk; omega))
            obtain ⟨g25, c25, rfl, hgb25, hrg25, hnr25⟩ := ho25.blockOf (by rw [HEL.out]; omega)
            have HRG25 := hide hrg25
            rw [HEL.out]
            have hgn25 : g4 < g25 := (by omega)
            clear hr25 hg25 ho25 hrg25
            refine hK.out _ _ HX.out (fun _ => ?_)
            refine wpAnyH_more (S' := fun w' => Gr g4 w25 w') (fun w' h => HX.out.trans h) ?_
            clear HX hK K hHeld
            have hHeld := Gr.refl g4 w25
            try simp only [Act.put, List.setIfInBounds_toArray, List.set_cons_zero, List.set_cons_succ]
            refine take_d 26 (i := 14) (v := .pointer (some ⟨g25, 0, none⟩)) rfl (by kernel_rfl) (by kernel_rfl) (by kernel_rfl) (by kernel_rfl) (fun _ _ _ h => h) (Or.inl ⟨by kernel_rfl, fun w' hS => exec_arrayAtG _ _ rfl _ 16 (some ⟨g25, 0, none⟩) 16 c25 rfl Tryd.underlying28 (by omega)⟩) hHeld ?_
            try simp only [Act.put, List.setIfInBounds_toArray, List.set_cons_zero, List.set_cons_succ]
            refine take_d 27 (i := 15) (v := .agg (u8s en).toArray) rfl (by kernel_rfl) (by kernel_rfl) (by kernel_rfl) (by kernel_rfl) (fun _ _ _ h => h) (Or.inl ⟨by kernel_rfl, fun w' hS => exec_loadAll _ _ rfl g25 0 rfl _ _ (fun j v hj => (World.cell?_of_block (hS.block g25 (by omega) (by omega) hnr25)).trans (HRG25.out j v hj)) Tryd.underlying28 rfl (by rw [u8s_len, HEL.out]; exact size_key16)⟩) hHeld ?_
            try simp only [Act.put, List.setIfInBounds_toArray, List.set_cons_zero, List.set_cons_succ]
            refine take_d 28 (i := 16) (v := .agg (reqCells QQ (.slice none 0 0) (.slice none 0 0)).toArray) rfl (by kernel_rfl) (by kernel_rfl) (by kernel_rfl) (by kernel_rfl) (fun _ _ _ h => h) (Or.inl ⟨by kernel_rfl, fun w' hS => (exec_build5 _ _ _ _ _ _ _ _ _ _ _ rfl _ _ _ _ _ rfl rfl rfl rfl rfl _ HBQ.out)⟩) hHeld ?_
            try simp only [Act.put, List.setIfInBounds_toArray, List.set_cons_zero, List.set_cons_succ]
            refine wpAnyH_ready (rs := [18]) (by kernel_rfl) (by simp) (AllReadyH.cons rfl (fun K hK => ?_) AllReadyH.nil)
            rw [if_pos (by kernel_rfl)]
            refine wp_store_blkD 31 _ _ rfl rfl g5 0 (reqCells QQ (.slice none 0 0) (.slice none 0 0)) rfl rfl _ _ HZ.out.blk (by rw [rq_len HZ.out.keys, rq_len HQK.out]; omega) (by rw [rq_len HQK.out]; exact size_req) (rq_one rfl rfl) ?_
            intro ws hbs hgs hss
            have HZ2 := hide (show ReqB ws g5 QQ (.slice none 0 0) (.slice none 0 0) from ⟨(by rw [lset_all _ _ (by rw [rq_len HZ.out.keys, rq_len HQK.out])] at hbs; exact hbs), HQK.out, rfl, rfl⟩)
            have HRD2 := hide (HRD.out.pastT HZ.out.blk (by decide) hgs hgz)
            have HR2 := hide (HR.out.grown hgs (by intro e; injection e; omega))
            have HW2 := hide (HW.out.grown hgs (by have := HW.out.size; omega) (by intro k hk; injection hk; omega))
            refine hK.out _ _ (hHeld.trans (Gr.req hgs HZ.out.blk)) (fun _ => ?_)
            clear hK K hbs hgs hss
            try simp only [Act.put, List.setIfInBounds_toArray, List.set_cons_zero, List.set_cons_succ]
            refine wpAnyH_done (by kernel_rfl) ?_ _
            go_wp2_with fail
            go_meet
            exact ⟨_, rfl, HZ2.out, HRD2.out, HR2.out, HW2.out, hgz⟩
        case q6_17 =>
          rw [if_pos (by kernel_rfl)]
          refine wp_alloc_blkG 31 5 rfl rfl _ zero_req ?_
          intro g5 w5 hg5 hb5 hw5
          have HZ := hide (show ReqB w5 g5 req0 (.slice none 0 0) (.slice none 0 0) from ⟨hb5, req0_keys, rfl, rfl⟩)
          have hgz : g4 < g5 := (by have := HRD.out.lt; omega)
          replace HRD := hide (HRD.out.far hw5)
          have hzw5 := hw5.size
          have HX := hide (hHeld.trans (Gr.of (grown_below (row := some g4) hw5)))
          replace HR := hide (HR.out.grown (grown_below (row := some g4) hw5) (by intro e; injection e; omega))
          replace HW := hide (HW.out.grown (grown_below (row := some g4) hw5) (by have := HW.out.size; omega) (by intro k hk; injection hk; omega))
          clear hb5 hw5
          refine hK.out _ _ HX.out (fun _ => ?_)
          refine wpAnyH_more (S' := fun w' => Gr g4 w5 w') (fun w' h => HX.out.trans h) ?_
          clear HX hK K hHeld
          have hHeld := Gr.refl g4 w5
          try simp only [Act.put, List.setIfInBounds_toArray, List.set_cons_zero, List.set_cons_succ]
          refine wpAnyH_ready (rs := [7]) (by kernel_rfl) (by simp) (AllReadyH.cons rfl (fun K hK => ?_) AllReadyH.nil)
          rw [if_pos (by kernel_rfl)]
          try go_simp
          refine (C2.out _ _ _ HRD.out).mono ?_
          rintro e w19 ⟨v19, rfl, ho19, hr19, hg19⟩
          replace HRD := hide hr19
          have hzw19 := hg19.size
          have HX := hide (hHeld.trans (Gr.of hg19))
          try replace HZ := hide (HZ.out.grown hg19 (by have := HZ.out.lt; intro e; injection e; omega))
          replace HR := hide (HR.out.grown hg19 (by intro e; injection e; omega))
          replace HW := hide (HW.out.grown hg19 (by have := HW.out.size; omega) (by intro k hk; injection hk; omega))
          obtain ⟨g19, c19, rfl, hgb19, hrg19, hnr19⟩ := ho19.blockOf (by rw [HSL.out]; omega)
          have HRG19 := hide hrg19
          rw [HSL.out]
          have hgn19 : g4 < g19 := (by omega)
          clear hr19 hg19 ho19 hrg19
          refine hK.out _ _ HX.out (fun _ => ?_)
          refine wpAnyH_more (S' := fun w' => Gr g4 w19 w') (fun w' h => HX.out.trans h) ?_
          clear HX hK K hHeld
          have hHeld := Gr.refl g4 w19
          try simp only [Act.put, List.setIfInBounds_toArray, List.set_cons_zero, List.set_cons_succ]
          refine take_d 20 (i := 8) (v := .pointer (some ⟨g19, 0, none⟩)) rfl (by kernel_rfl) (by kernel_rfl) (by kernel_rfl) (by kernel_rfl) (fun _ _ _ h => h) (Or.inl ⟨by kernel_rfl, fun w' hS => exec_arrayAtG _ _ rfl _ 16 (some ⟨g19, 0, none⟩) 16 c19 rfl Tryd.underlying28 (by omega)⟩) hHeld ?_
          try simp only [Act.put, List.setIfInBounds_toArray, List.set_cons_zero, List.set_cons_succ]
          refine take_d 21 (i := 9) (v := .agg (u8s sc).toArray) rfl (by kernel_rfl) (by kernel_rfl) (by kernel_rfl) (by kernel_rfl) (fun _ _ _ h => h) (Or.inl ⟨by kernel_rfl, fun w' hS => exec_loadAll _ _ rfl g19 0 rfl _ _ (fun j v hj => (World.cell?_of_block (hS.block g19 (by omega) (by omega) hnr19)).trans (HRG19.out j v hj)) Tryd.underlying28 rfl (by rw [u8s_len, HSL.out]; exact size_key16)⟩) hHeld ?_
          try simp only [Act.put, List.setIfInBounds_toArray, List.set_cons_zero, List.set_cons_succ]
          refine wpAnyH_ready (rs := [11]) (by kernel_rfl) (by simp) (AllReadyH.cons rfl (fun K hK => ?_) AllReadyH.nil)
          rw [if_pos (by kernel_rfl)]
          try go_simp
          refine (C3.out _ _ _ HRD.out).mono ?_
          rintro e w23 ⟨rfl, hr23, hg23⟩
          replace HRD := hide hr23
          have hzw23 := hg23.size
          have HX := hide (hHeld.trans (Gr.of hg23))
          try replace HZ := hide (HZ.out.grown hg23 (by have := HZ.out.lt; intro e; injection e; omega))
          replace HR := hide (HR.out.grown hg23 (by intro e; injection e; omega))
          replace HW := hide (HW.out.grown hg23 (by have := HW.out.size; omega) (by intro k hk; injection hk; omega))
          clear hr23 hg23
          refine hK.out _ _ HX.out (fun _ => ?_)
          refine wpAnyH_more (S' := fun w' => Gr g4 w23 w') (fun w' h => HX.out.trans h) ?_
          clear HX hK K hHeld
          have hHeld := Gr.refl g4 w23
          try simp only [Act.put, List.setIfInBounds_toArray, List.set_cons_zero, List.set_cons_succ]
          refine wpAnyH_ready (rs := [13]) (by kernel_rfl) (by simp) (AllReadyH.cons rfl (fun K hK => ?_) AllReadyH.nil)
          rw [if_pos (by kernel_rfl)]
          try go_simp
          refine (C4.out _ _ _ HRD.out).mono ?_
          rintro e w25 ⟨v25, rfl, ho25, hr25, hg25⟩
          replace HRD := hide hr25
          have hzw25 := hg25.size
          have HX := hide (hHeld.trans (Gr.of hg25))
          try replace HZ := hide (HZ.out.grown hg25 (by have := HZ.out.lt; intro e; injection e; omega))
          replace HR := hide (HR.out.grown hg25 (by intro e; injection e; omega))
          replace HW := hide (HW.out.grown hg25 (by have := HW.out.size; omega) (by intro k hk; injection hk; omega))
          obtain ⟨g25, c25, rfl, hgb25, hrg25, hnr25⟩ := ho25.blockOf (by rw [HEL.out]; omega)
          have HRG25 := hide hrg25
          rw [HEL.out]
          have hgn25 : g4 < g25 := (by omega)
          clear hr25 hg25 ho25 hrg25
          refine hK.out _ _ HX.out (fun _ => ?_)
          refine wpAnyH_more (S' := fun w' => Gr g4 w25 w') (fun w' h => HX.out.trans h) ?_
          clear HX hK K hHeld
          have hHeld := Gr.refl g4 w25
          try simp only [Act.put, List.setIfInBounds_toArray, List.set_cons_zero, List.set_cons_succ]
          refine take_d 26 (i := 14) (v := .pointer (some ⟨g25, 0, none⟩)) rfl (by kernel_rfl) (by kernel_rfl) (by kernel_rfl) (by kernel_rfl) (fun _ _ _ h => h) (Or.inl ⟨by kernel_rfl, fun w' hS => exec_arrayAtG _ _ rfl _ 16 (some ⟨g25, 0, none⟩) 16 c25 rfl Tryd.underlying28 (by omega)⟩) hHeld ?_
          try simp only [Act.put, List.setIfInBounds_toArray, List.set_cons_zero, List.set_cons_succ]
          refine take_d 27 (i := 15) (v := .agg (u8s en).toArray) rfl (by kernel_rfl) (by kernel_rfl) (by kernel_rfl) (by kernel_rfl) (fun _ _ _ h => h) (Or.inl ⟨by kernel_rfl, fun w' hS => exec_loadAll _ _ rfl g25 0 rfl _ _ (fun j v hj => (World.cell?_of_block (hS.block g25 (by omega) (by omega) hnr25)).trans (HRG25.out j v hj)) Tryd.underlying28 rfl (by rw [u8s_len, HEL.out]; exact size_key16)⟩) hHeld ?_
          try simp only [Act.put, List.setIfInBounds_toArray, List.set_cons_zero, List.set_cons_succ]
          refine take_d 28 (i := 16) (v := .agg (reqCells QQ (.slice none 0 0) (.slice none 0 0)).toArray) rfl (by kernel_rfl) (by kernel_rfl) (by kernel_rfl) (by kernel_rfl) (fun _ _ _ h => h) (Or.inl ⟨by kernel_rfl, fun w' hS => (exec_build5 _ _ _ _ _ _ _ _ _ _ _ rfl _ _ _ _ _ rfl rfl rfl rfl rfl _ HBQ.out)⟩) hHeld ?_
          try simp only [Act.put, List.setIfInBounds_toArray, List.set_cons_zero, List.set_cons_succ]
          refine wpAnyH_ready (rs := [18]) (by kernel_rfl) (by simp) (AllReadyH.cons rfl (fun K hK => ?_) AllReadyH.nil)
          rw [if_pos (by kernel_rfl)]
          refine wp_store_blkD 31 _ _ rfl rfl g5 0 (reqCells QQ (.slice none 0 0) (.slice none 0 0)) rfl rfl _ _ HZ.out.blk (by rw [rq_len HZ.out.keys, rq_len HQK.out]; omega) (by rw [rq_len HQK.out]; exact size_req) (rq_one rfl rfl) ?_
          intro ws hbs hgs hss
          have HZ2 := hide (show ReqB ws g5 QQ (.slice none 0 0) (.slice none 0 0) from ⟨(by rw [lset_all _ _ (by rw [rq_len HZ.out.keys, rq_len HQK.out])] at hbs; exact hbs), HQK.out, rfl, rfl⟩)
          have HRD2 := hide (HRD.out.pastT HZ.out.blk (by decide) hgs hgz)
          have HR2 := hide (HR.out.grown hgs (by intro e; injection e; omega))
          have HW2 := hide (HW.out.grown hgs (by have := HW.out.size; omega) (by intro k hk; injection hk; omega))
          refine hK.out _ _ (hHeld.trans (Gr.req hgs HZ.out.blk)) (fun _ => ?_)
          clear hK K hbs hgs hss
          try simp only [Act.put, List.setIfInBounds_toArray, List.set_cons_zero, List.set_cons_succ]
          refine wpAnyH_done (by kernel_rfl) ?_ _
          go_wp2_with fail
          go_meet
          exact ⟨_, rfl, HZ2.out, HRD2.out, HR2.out, HW2.out, hgz⟩
      case q4_17 =>
        rw [if_pos (by kernel_rfl)]
        refine wp_alloc_blkG 31 5 rfl rfl _ zero_req ?_
        intro g5 w5 hg5 hb5 hw5
        have HZ := hide (show ReqB w5 g5 req0 (.slice none 0 0) (.slice none 0 0) from ⟨hb5, req0_keys, rfl, rfl⟩)
        have hgz : g4 < g5 := (by have := HRD.out.lt; omega)
        replace HRD := hide (HRD.out.far hw5)
        have hzw5 := hw5.size
        have HX := hide (hHeld.trans (Gr.of (grown_below (row := some g4) hw5)))
        replace HR := hide (HR.out.grown (grown_below (row := some g4) hw5) (by intro e; injection e; omega))
        replace HW := hide (HW.out.grown (grown_below (row := some g4) hw5) (by have := HW.out.size; omega) (by intro k hk; injection hk; omega))
        clear hb5 hw5
        refine hK.out _ _ HX.out (fun _ => ?_)
        refine wpAnyH_more (S' := fun w' => Gr g4 w5 w') (fun w' h => HX.out.trans h) ?_
        clear HX hK K hHeld
        have hHeld := Gr.refl g4 w5
        try simp only [Act.put, List.setIfInBounds_toArray, List.set_cons_zero, List.set_cons_succ]
        refine wpAnyH_ready (rs := [3]) (by kernel_rfl) (by simp) (AllReadyH.cons rfl (fun K hK => ?_) AllReadyH.nil)
        rw [if_pos (by kernel_rfl)]
        try go_simp
        refine (C1.out _ _ _ HRD.out).mono ?_
        rintro e w15 ⟨v15, rfl, ho15, hr15, hg15⟩
        replace HRD := hide hr15
        have hzw15 := hg15.size
        have HX := hide (hHeld.trans (Gr.of hg15))
        try replace HZ := hide (HZ.out.grown hg15 (by have := HZ.out.lt; intro e; injection e; omega))
        replace HR := hide (HR.out.grown hg15 (by intro e; injection e; omega))
        replace HW := hide (HW.out.grown hg15 (by have := HW.out.size; omega) (by intro k hk; injection hk; omega))
        obtain ⟨g15, c15, rfl, hgb15, hrg15, hnr15⟩ := ho15.blockOf (by rw [HIL.out]; omega)
        have HRG15 := hide hrg15
        rw [HIL.out]
        have hgn15 : g4 < g15 := (by omega)
        clear hr15 hg15 ho15 hrg15
        refine hK.out _ _ HX.out (fun _ => ?_)
        refine wpAnyH_more (S' := fun w' => Gr g4 w15 w') (fun w' h => HX.out.trans h) ?_
        clear HX hK K hHeld
        have hHeld := Gr.refl g4 w15
        try simp only [Act.put, List.setIfInBounds_toArray, List.set_cons_zero, List.set_cons_succ]
        refine take_d 16 (i := 4) (v := .pointer (some ⟨g15, 0, none⟩)) rfl (by kernel_rfl) (by kernel_rfl) (by kernel_rfl) (by kernel_rfl) (fun _ _ _ h => h) (Or.inl ⟨by kernel_rfl, fun w' hS => exec_arrayAtG _ _ rfl _ 16 (some ⟨g15, 0, none⟩) 16 c15 rfl Tryd.underlying28 (by omega)⟩) hHeld ?_
        try simp only [Act.put, List.setIfInBounds_toArray, List.set_cons_zero, List.set_cons_succ]
        refine take_d 17 (i := 5) (v := .agg (u8s i0).toArray) rfl (by kernel_rfl) (by kernel_rfl) (by kernel_rfl) (by kernel_rfl) (fun _ _ _ h => h) (Or.inl ⟨by kernel_rfl, fun w' hS => exec_loadAll _ _ rfl g15 0 rfl _ _ (fun j v hj => (World.cell?_of_block (hS.block g15 (by omega) (by omega) hnr15)).trans (HRG15.out j v hj)) Tryd.underlying28 rfl (by rw [u8s_len, HIL.out]; exact size_key16)⟩) hHeld ?_
        try simp only [Act.put, List.setIfInBounds_toArray, List.set_cons_zero, List.set_cons_succ]
        refine wpAnyH_ready (rs := [7]) (by kernel_rfl) (by simp) (AllReadyH.cons rfl (fun K hK => ?_) AllReadyH.nil)
        rw [if_pos (by kernel_rfl)]
        try go_simp
        refine (C2.out _ _ _ HRD.out).mono ?_
        rintro e w19 ⟨v19, rfl, ho19, hr19, hg19⟩
        replace HRD := hide hr19
        have hzw19 := hg19.size
        have HX := hide (hHeld.trans (Gr.of hg19))
        try replace HZ := hide (HZ.out.grown hg19 (by have := HZ.out.lt; intro e; injection e; omega))
        replace HR := hide (HR.out.grown hg19 (by intro e; injection e; omega))
        replace HW := hide (HW.out.grown hg19 (by have := HW.out.size; omega) (by intro k hk; injection hk; omega))
        obtain ⟨g19, c19, rfl, hgb19, hrg19, hnr19⟩ := ho19.blockOf (by rw [HSL.out]; omega)
        have HRG19 := hide hrg19
        rw [HSL.out]
        have hgn19 : g4 < g19 := (by omega)
        clear hr19 hg19 ho19 hrg19
        refine hK.out _ _ HX.out (fun _ => ?_)
        refine wpAnyH_more (S' := fun w' => Gr g4 w19 w') (fun w' h => HX.out.trans h) ?_
        clear HX hK K hHeld
        have hHeld := Gr.refl g4 w19
        try simp only [Act.put, List.setIfInBounds_toArray, List.set_cons_zero, List.set_cons_succ]
        refine take_d 20 (i := 8) (v := .pointer (some ⟨g19, 0, none⟩)) rfl (by kernel_rfl) (by kernel_rfl) (by kernel_rfl) (by kernel_rfl) (fun _ _ _ h => h) (Or.inl ⟨by kernel_rfl, fun w' hS => exec_arrayAtG _ _ rfl _ 16 (some ⟨g19, 0, none⟩) 16 c19 rfl Tryd.underlying28 (by omega)⟩) hHeld ?_
        try simp only [Act.put, List.setIfInBounds_toArray, List.set_cons_zero, List.set_cons_succ]
        refine take_d 21 (i := 9) (v := .agg (u8s sc).toArray) rfl (by kernel_rfl) (by kernel_rfl) (by kernel_rfl) (by kernel_rfl) (fun _ _ _ h => h) (Or.inl ⟨by kernel_rfl, fun w' hS => exec_loadAll _ _ rfl g19 0 rfl _ _ (fun j v hj => (World.cell?_of_block (hS.block g19 (by omega) (by omega) hnr19)).trans (HRG19.out j v hj)) Tryd.underlying28 rfl (by rw [u8s_len, HSL.out]; exact size_key16)⟩) hHeld ?_
        try simp only [Act.put, List.setIfInBounds_toArray, List.set_cons_zero, List.set_cons_succ]
        refine wpAnyH_ready (rs := [11]) (by kernel_rfl) (by simp) (AllReadyH.cons rfl (fun K hK => ?_) AllReadyH.nil)
        rw [if_pos (by kernel_rfl)]
        try go_simp
        refine (C3.out _ _ _ HRD.out).mono ?_
        rintro e w23 ⟨rfl, hr23, hg23⟩
        replace HRD := hide hr23
        have hzw23 := hg23.size
        have HX := hide (hHeld.trans (Gr.of hg23))
        try replace HZ := hide (HZ.out.grown hg23 (by have := HZ.out.lt; intro e; injection e; omega))
        replace HR := hide (HR.out.grown hg23 (by intro e; injection e; omega))
        replace HW := hide (HW.out.grown hg23 (by have := HW.out.size; omega) (by intro k hk; injection hk; omega))
        clear hr23 hg23
        refine hK.out _ _ HX.out (fun _ => ?_)
        refine wpAnyH_more (S' := fun w' => Gr g4 w23 w') (fun w' h => HX.out.trans h) ?_
        clear HX hK K hHeld
        have hHeld := Gr.refl g4 w23
        try simp only [Act.put, List.setIfInBounds_toArray, List.set_cons_zero, List.set_cons_succ]
        refine wpAnyH_ready (rs := [13]) (by kernel_rfl) (by simp) (AllReadyH.cons rfl (fun K hK => ?_) AllReadyH.nil)
        rw [if_pos (by kernel_rfl)]
        try go_simp
        refine (C4.out _ _ _ HRD.out).mono ?_
        rintro e w25 ⟨v25, rfl, ho25, hr25, hg25⟩
        replace HRD := hide hr25
        have hzw25 := hg25.size
        have HX := hide (hHeld.trans (Gr.of hg25))
        try replace HZ := hide (HZ.out.grown hg25 (by have := HZ.out.lt; intro e; injection e; omega))
        replace HR := hide (HR.out.grown hg25 (by intro e; injection e; omega))
        replace HW := hide (HW.out.grown hg25 (by have := HW.out.size; omega) (by intro k hk; injection hk; omega))
        obtain ⟨g25, c25, rfl, hgb25, hrg25, hnr25⟩ := ho25.blockOf (by rw [HEL.out]; omega)
        have HRG25 := hide hrg25
        rw [HEL.out]
        have hgn25 : g4 < g25 := (by omega)
        clear hr25 hg25 ho25 hrg25
        refine hK.out _ _ HX.out (fun _ => ?_)
        refine wpAnyH_more (S' := fun w' => Gr g4 w25 w') (fun w' h => HX.out.trans h) ?_
        clear HX hK K hHeld
        have hHeld := Gr.refl g4 w25
        try simp only [Act.put, List.setIfInBounds_toArray, List.set_cons_zero, List.set_cons_succ]
        refine take_d 26 (i := 14) (v := .pointer (some ⟨g25, 0, none⟩)) rfl (by kernel_rfl) (by kernel_rfl) (by kernel_rfl) (by kernel_rfl) (fun _ _ _ h => h) (Or.inl ⟨by kernel_rfl, fun w' hS => exec_arrayAtG _ _ rfl _ 16 (some ⟨g25, 0, none⟩) 16 c25 rfl Tryd.underlying28 (by omega)⟩) hHeld ?_
        try simp only [Act.put, List.setIfInBounds_toArray, List.set_cons_zero, List.set_cons_succ]
        refine take_d 27 (i := 15) (v := .agg (u8s en).toArray) rfl (by kernel_rfl) (by kernel_rfl) (by kernel_rfl) (by kernel_rfl) (fun _ _ _ h => h) (Or.inl ⟨by kernel_rfl, fun w' hS => exec_loadAll _ _ rfl g25 0 rfl _ _ (fun j v hj => (World.cell?_of_block (hS.block g25 (by omega) (by omega) hnr25)).trans (HRG25.out j v hj)) Tryd.underlying28 rfl (by rw [u8s_len, HEL.out]; exact size_key16)⟩) hHeld ?_
        try simp only [Act.put, List.setIfInBounds_toArray, List.set_cons_zero, List.set_cons_succ]
        refine take_d 28 (i := 16) (v := .agg (reqCells QQ (.slice none 0 0) (.slice none 0 0)).toArray) rfl (by kernel_rfl) (by kernel_rfl) (by kernel_rfl) (by kernel_rfl) (fun _ _ _ h => h) (Or.inl ⟨by kernel_rfl, fun w' hS => (exec_build5 _ _ _ _ _ _ _ _ _ _ _ rfl _ _ _ _ _ rfl rfl rfl rfl rfl _ HBQ.out)⟩) hHeld ?_
        try simp only [Act.put, List.setIfInBounds_toArray, List.set_cons_zero, List.set_cons_succ]
        refine wpAnyH_ready (rs := [18]) (by kernel_rfl) (by simp) (AllReadyH.cons rfl (fun K hK => ?_) AllReadyH.nil)
        rw [if_pos (by kernel_rfl)]
        refine wp_store_blkD 31 _ _ rfl rfl g5 0 (reqCells QQ (.slice none 0 0) (.slice none 0 0)) rfl rfl _ _ HZ.out.blk (by rw [rq_len HZ.out.keys, rq_len HQK.out]; omega) (by rw [rq_len HQK.out]; exact size_req) (rq_one rfl rfl) ?_
        intro ws hbs hgs hss
        have HZ2 := hide (show ReqB ws g5 QQ (.slice none 0 0) (.slice none 0 0) from ⟨(by rw [lset_all _ _ (by rw [rq_len HZ.out.keys, rq_len HQK.out])] at hbs; exact hbs), HQK.out, rfl, rfl⟩)
        have HRD2 := hide (HRD.out.pastT HZ.out.blk (by decide) hgs hgz)
        have HR2 := hide (HR.out.grown hgs (by intro e; injection e; omega))
        have HW2 := hide (HW.out.grown hgs (by have := HW.out.size; omega) (by intro k hk; injection hk; omega))
        refine hK.out _ _ (hHeld.trans (Gr.req hgs HZ.out.blk)) (fun _ => ?_)
        clear hK K hbs hgs hss
        try simp only [Act.put, List.setIfInBounds_toArray, List.set_cons_zero, List.set_cons_succ]
        refine wpAnyH_done (by kernel_rfl) ?_ _
        go_wp2_with fail
        go_meet
        exact ⟨_, rfl, HZ2.out, HRD2.out, HR2.out, HW2.out, hgz⟩
    case q2_17 =>
      rw [if_pos (by kernel_rfl)]
      refine wp_alloc_blkG 31 5 rfl rfl _ zero_req ?_
      intro g5 w5 hg5 hb5 hw5
      have HZ := hide (show ReqB w5 g5 req0 (.slice none 0 0) (.slice none 0 0) from ⟨hb5, req0_keys, rfl, rfl⟩)
      have hgz : g4 < g5 := (by have := HRD.out.lt; omega)
      replace HRD := hide (HRD.out.far hw5)
      have hzw5 := hw5.size
      have HX := hide (hHeld.trans (Gr.of (grown_below (row := some g4) hw5)))
      replace HR := hide (HR.out.grown (grown_below (row := some g4) hw5) (by intro e; injection e; omega))
      replace HW := hide (HW.out.grown (grown_below (row := some g4) hw5) (by have := HW.out.size; omega) (by intro k hk; injection hk; omega))
      clear hb5 hw5
      refine hK.out _ _ HX.out (fun _ => ?_)
      refine wpAnyH_more (S' := fun w' => Gr g4 w5 w') (fun w' h => HX.out.trans h) ?_
      clear HX hK K hHeld
      have hHeld := Gr.refl g4 w5
      try simp only [Act.put, List.setIfInBounds_toArray, List.set_cons_zero, List.set_cons_succ]
      refine wpAnyH_ready (rs := [1]) (by kernel_rfl) (by simp) (AllReadyH.cons rfl (fun K hK => ?_) AllReadyH.nil)
      rw [if_pos (by kernel_rfl)]
      try go_simp
      refine (C0.out _ _ _ HRD.out).mono ?_
      rintro e w13 ⟨rfl, hr13, hg13⟩
      replace HRD := hide hr13
      have hzw13 := hg13.size
      have HX := hide (hHeld.trans (Gr.of hg13))
      try replace HZ := hide (HZ.out.grown hg13 (by have := HZ.out.lt; intro e; injection e; omega))
      replace HR := hide (HR.out.grown hg13 (by intro e; injection e; omega))
      replace HW := hide (HW.out.grown hg13 (by have := HW.out.size; omega) (by intro k hk; injection hk; omega))
      clear hr13 hg13
      refine hK.out _ _ HX.out (fun _ => ?_)
      refine wpAnyH_more (S' := fun w' => Gr g4 w13 w') (fun w' h => HX.out.trans h) ?_
      clear HX hK K hHeld
      have hHeld := Gr.refl g4 w13
      try simp only [Act.put, List.setIfInBounds_toArray, List.set_cons_zero, List.set_cons_succ]
      refine wpAnyH_ready (rs := [3]) (by kernel_rfl) (by simp) (AllReadyH.cons rfl (fun K hK => ?_) AllReadyH.nil)
      rw [if_pos (by kernel_rfl)]
      try go_simp
      refine (C1.out _ _ _ HRD.out).mono ?_
      rintro e w15 ⟨v15, rfl, ho15, hr15, hg15⟩
      replace HRD := hide hr15
      have hzw15 := hg15.size
      have HX := hide (hHeld.trans (Gr.of hg15))
      try replace HZ := hide (HZ.out.grown hg15 (by have := HZ.out.lt; intro e; injection e; omega))
      replace HR := hide (HR.out.grown hg15 (by intro e; injection e; omega))
      replace HW := hide (HW.out.grown hg15 (by have := HW.out.size; omega) (by intro k hk; injection hk; omega))
      obtain ⟨g15, c15, rfl, hgb15, hrg15, hnr15⟩ := ho15.blockOf (by rw [HIL.out]; omega)
      have HRG15 := hide hrg15
      rw [HIL.out]
      have hgn15 : g4 < g15 := (by omega)
      clear hr15 hg15 ho15 hrg15
      refine hK.out _ _ HX.out (fun _ => ?_)
      refine wpAnyH_more (S' := fun w' => Gr g4 w15 w') (fun w' h => HX.out.trans h) ?_
      clear HX hK K hHeld
      have hHeld := Gr.refl g4 w15
      try simp only [Act.put, List.setIfInBounds_toArray, List.set_cons_zero, List.set_cons_succ]
      refine take_d 16 (i := 4) (v := .pointer (some ⟨g15, 0, none⟩)) rfl (by kernel_rfl) (by kernel_rfl) (by kernel_rfl) (by kernel_rfl) (fun _ _ _ h => h) (Or.inl ⟨by kernel_rfl, fun w' hS => exec_arrayAtG _ _ rfl _ 16 (some ⟨g15, 0, none⟩) 16 c15 rfl Tryd.underlying28 (by omega)⟩) hHeld ?_
      try simp only [Act.put, List.setIfInBounds_toArray, List.set_cons_zero, List.set_cons_succ]
      refine take_d 17 (i := 5) (v := .agg (u8s i0).toArray) rfl (by kernel_rfl) (by kernel_rfl) (by kernel_rfl) (by kernel_rfl) (fun _ _ _ h => h) (Or.inl ⟨by kernel_rfl, fun w' hS => exec_loadAll _ _ rfl g15 0 rfl _ _ (fun j v hj => (World.cell?_of_block (hS.block g15 (by omega) (by omega) hnr15)).trans (HRG15.out j v hj)) Tryd.underlying28 rfl (by rw [u8s_len, HIL.out]; exact size_key16)⟩) hHeld ?_
      try simp only [Act.put, List.setIfInBounds_toArray, List.set_cons_zero, List.set_cons_succ]
      refine wpAnyH_ready (rs := [7]) (by kernel_rfl) (by simp) (AllReadyH.cons rfl (fun K hK => ?_) AllReadyH.nil)
      rw [if_pos (by kernel_rfl)]
      try go_simp
      refine (C2.out _ _ _ HRD.out).mono ?_
      rintro e w19 ⟨v19, rfl, ho19, hr19, hg19⟩
      replace HRD := hide hr19
      have hzw19 := hg19.size
      have HX := hide (hHeld.trans (Gr.of hg19))
      try replace HZ := hide (HZ.out.grown hg19 (by have := HZ.out.lt; intro e; injection e; omega))
      replace HR := hide (HR.out.grown hg19 (by intro e; injection e; omega))
      replace HW := hide (HW.out.grown hg19 (by have := HW.out.size; omega) (by intro k hk; injection hk; omega))
      obtain ⟨g19, c19, rfl, hgb19, hrg19, hnr19⟩ := ho19.blockOf (by rw [HSL.out]; omega)
      have HRG19 := hide hrg19
      rw [HSL.out]
      have hgn19 : g4 < g19 := (by omega)
      clear hr19 hg19 ho19 hrg19
      refine hK.out _ _ HX.out (fun _ => ?_)
      refine wpAnyH_more (S' := fun w' => Gr g4 w19 w') (fun w' h => HX.out.trans h) ?_
      clear HX hK K hHeld
      have hHeld := Gr.refl g4 w19
      try simp only [Act.put, List.setIfInBounds_toArray, List.set_cons_zero, List.set_cons_succ]
      refine take_d 20 (i := 8) (v := .pointer (some ⟨g19, 0, none⟩)) rfl (by kernel_rfl) (by kernel_rfl) (by kernel_rfl) (by kernel_rfl) (fun _ _ _ h => h) (Or.inl ⟨by kernel_rfl, fun w' hS => exec_arrayAtG _ _ rfl _ 16 (some ⟨g19, 0, none⟩) 16 c19 rfl Tryd.underlying28 (by omega)⟩) hHeld ?_
      try simp only [Act.put, List.setIfInBounds_toArray, List.set_cons_zero, List.set_cons_succ]
      refine take_d 21 (i := 9) (v := .agg (u8s sc).toArray) rfl (by kernel_rfl) (by kernel_rfl) (by kernel_rfl) (by kernel_rfl) (fun _ _ _ h => h) (Or.inl ⟨by kernel_rfl, fun w' hS => exec_loadAll _ _ rfl g19 0 rfl _ _ (fun j v hj => (World.cell?_of_block (hS.block g19 (by omega) (by omega) hnr19)).trans (HRG19.out j v hj)) Tryd.underlying28 rfl (by rw [u8s_len, HSL.out]; exact size_key16)⟩) hHeld ?_
      try simp only [Act.put, List.setIfInBounds_toArray, List.set_cons_zero, List.set_cons_succ]
      refine wpAnyH_ready (rs := [11]) (by kernel_rfl) (by simp) (AllReadyH.cons rfl (fun K hK => ?_) AllReadyH.nil)
      rw [if_pos (by kernel_rfl)]
      try go_simp
      refine (C3.out _ _ _ HRD.out).mono ?_
      rintro e w23 ⟨rfl, hr23, hg23⟩
      replace HRD := hide hr23
      have hzw23 := hg23.size
      have HX := hide (hHeld.trans (Gr.of hg23))
      try replace HZ := hide (HZ.out.grown hg23 (by have := HZ.out.lt; intro e; injection e; omega))
      replace HR := hide (HR.out.grown hg23 (by intro e; injection e; omega))
      replace HW := hide (HW.out.grown hg23 (by have := HW.out.size; omega) (by intro k hk; injection hk; omega))
      clear hr23 hg23
      refine hK.out _ _ HX.out (fun _ => ?_)
      refine wpAnyH_more (S' := fun w' => Gr g4 w23 w') (fun w' h => HX.out.trans h) ?_
      clear HX hK K hHeld
      have hHeld := Gr.refl g4 w23
      try simp only [Act.put, List.setIfInBounds_toArray, List.set_cons_zero, List.set_cons_succ]
      refine wpAnyH_ready (rs := [13]) (by kernel_rfl) (by simp) (AllReadyH.cons rfl (fun K hK => ?_) AllReadyH.nil)
      rw [if_pos (by kernel_rfl)]
      try go_simp
      refine (C4.out _ _ _ HRD.out).mono ?_
      rintro e w25 ⟨v25, rfl, ho25, hr25, hg25⟩
      replace HRD := hide hr25
      have hzw25 := hg25.size
      have HX := hide (hHeld.trans (Gr.of hg25))
      try replace HZ := hide (HZ.out.grown hg25 (by have := HZ.out.lt; intro e; injection e; omega))
      replace HR := hide (HR.out.grown hg25 (by intro e; injection e; omega))
      replace HW := hide (HW.out.grown hg25 (by have := HW.out.size; omega) (by intro k hk; injection hk; omega))
      obtain ⟨g25, c25, rfl, hgb25, hrg25, hnr25⟩ := ho25.blockOf (by rw [HEL.out]; omega)
      have HRG25 := hide hrg25
      rw [HEL.out]
      have hgn25 : g4 < g25 := (by omega)
      clear hr25 hg25 ho25 hrg25
      refine hK.out _ _ HX.out (fun _ => ?_)
      refine wpAnyH_more (S' := fun w' => Gr g4 w25 w') (fun w' h => HX.out.trans h) ?_
      clear HX hK K hHeld
      have hHeld := Gr.refl g4 w25
      try simp only [Act.put, List.setIfInBounds_toArray, List.set_cons_zero, List.set_cons_succ]
      refine take_d 26 (i := 14) (v := .pointer (some ⟨g25, 0, none⟩)) rfl (by kernel_rfl) (by kernel_rfl) (by kernel_rfl) (by kernel_rfl) (fun _ _ _ h => h) (Or.inl ⟨by kernel_rfl, fun w' hS => exec_arrayAtG _ _ rfl _ 16 (some ⟨g25, 0, none⟩) 16 c25 rfl Tryd.underlying28 (by omega)⟩) hHeld ?_
      try simp only [Act.put, List.setIfInBounds_toArray, List.set_cons_zero, List.set_cons_succ]
      refine take_d 27 (i := 15) (v := .agg (u8s en).toArray) rfl (by kernel_rfl) (by kernel_rfl) (by kernel_rfl) (by kernel_rfl) (fun _ _ _ h => h) (Or.inl ⟨by kernel_rfl, fun w' hS => exec_loadAll _ _ rfl g25 0 rfl _ _ (fun j v hj => (World.cell?_of_block (hS.block g25 (by omega) (by omega) hnr25)).trans (HRG25.out j v hj)) Tryd.underlying28 rfl (by rw [u8s_len, HEL.out]; exact size_key16)⟩) hHeld ?_
      try simp only [Act.put, List.setIfInBounds_toArray, List.set_cons_zero, List.set_cons_succ]
      refine take_d 28 (i := 16) (v := .agg (reqCells QQ (.slice none 0 0) (.slice none 0 0)).toArray) rfl (by kernel_rfl) (by kernel_rfl) (by kernel_rfl) (by kernel_rfl) (fun _ _ _ h => h) (Or.inl ⟨by kernel_rfl, fun w' hS => (exec_build5 _ _ _ _ _ _ _ _ _ _ _ rfl _ _ _ _ _ rfl rfl rfl rfl rfl _ HBQ.out)⟩) hHeld ?_
      try simp only [Act.put, List.setIfInBounds_toArray, List.set_cons_zero, List.set_cons_succ]
      refine wpAnyH_ready (rs := [18]) (by kernel_rfl) (by simp) (AllReadyH.cons rfl (fun K hK => ?_) AllReadyH.nil)
      rw [if_pos (by kernel_rfl)]
      refine wp_store_blkD 31 _ _ rfl rfl g5 0 (reqCells QQ (.slice none 0 0) (.slice none 0 0)) rfl rfl _ _ HZ.out.blk (by rw [rq_len HZ.out.keys, rq_len HQK.out]; omega) (by rw [rq_len HQK.out]; exact size_req) (rq_one rfl rfl) ?_
      intro ws hbs hgs hss
      have HZ2 := hide (show ReqB ws g5 QQ (.slice none 0 0) (.slice none 0 0) from ⟨(by rw [lset_all _ _ (by rw [rq_len HZ.out.keys, rq_len HQK.out])] at hbs; exact hbs), HQK.out, rfl, rfl⟩)
      have HRD2 := hide (HRD.out.pastT HZ.out.blk (by decide) hgs hgz)
      have HR2 := hide (HR.out.grown hgs (by intro e; injection e; omega))
      have HW2 := hide (HW.out.grown hgs (by have := HW.out.size; omega) (by intro k hk; injection hk; omega))
      refine hK.out _ _ (hHeld.trans (Gr.req hgs HZ.out.blk)) (fun _ => ?_)
      clear hK K hbs hgs hss
      try simp only [Act.put, List.setIfInBounds_toArray, List.set_cons_zero, List.set_cons_succ]
      refine wpAnyH_done (by kernel_rfl) ?_ _
      go_wp2_with fail
      go_meet
      exact ⟨_, rfl, HZ2.out, HRD2.out, HR2.out, HW2.out, hgz⟩
  case rest =>
    obtain ⟨g5, rfl, hq5, hrd5, hr5, hw5, hg45⟩ := hcut
    have HQ := hide hq5
    have HRD := hide hrd5
    have HR := hide hr5
    have HW := hide hw5
    clear hq5 hrd5 hr5 hw5 C0 C1 C2 C3 C4
    obtain ⟨m, rfl⟩ := Int.eq_ofNat_of_zero_le HC32.out.1
    have hm32 : m ≤ 32 := by have := HC32.out.2; omega
    rw [Int.toNat_natCast] at HTN
    have HTNN := hide (fun (_ : Nat) => HTN.out)
    have HBNN := hide (fun (_ : Nat) => HBN.out)
    clear HC32 HTN HBN
    go_wp2_with fail
    refine (HCN.out _ _ _ HRD.out).mono ?_
    rintro e w3 ⟨rfl, hr3, hg3⟩
    replace HRD := hide hr3
    replace HQ := hide (HQ.out.grown hg3 (by intro e; injection e; omega))
    replace HR := hide (HR.out.grown hg3 (by intro e; injection e; omega))
    replace HW := hide (HW.out.grown hg3 (by have := HW.out.size; omega) (by intro k hk; injection hk; omega))
    clear hr3 hg3 HCN
    have hw30 : g0 ≤ w3.heap.size := by have := HW.out.size; omega
    go_wp2_with fail
    go_loopw [31] (fun v31 wr => ∃ (i : Nat) (l : List Msg.Tst) (s' : Msg.St) (vt : Value), v31 = .int .i64 (i : Int) ∧ i ≤ m ∧ l.length = i ∧ ReqB wr g5 QQ vt (.slice none 0 0) ∧ OwnTsts wr g0 vt l ∧ RdrAt wr g4 g0 s' ∧ ReqB wr g0 req0 (.slice none 0 0) (.slice none 0 0) ∧ Below g0 w wr ∧ (ts, s7) = (l ++ (Msg.testsN (m - i) s').1, (Msg.testsN (m - i) s').2)) (fun v31 _ => m - (intOf v31).toNat)
    case atStart => exact ⟨0, [], s6, _, by go_num, by omega, rfl, HQ.out, OwnTsts.nil_ _ _, HRD.out, HR.out, HW.out, by rw [Nat.sub_zero]; exact HTNN.out 0⟩
    case round =>
      obtain ⟨i, l, s', vt, rfl, hin, hl, hq, ho, hrd, hr, hb, hts⟩ := hrel
      clear HRD HQ HR HW
      have HQ := hide hq
      have HO := hide ho
      have HRD := hide hrd
      have HR := hide hr
      have HW := hide hb
      have HL := hide hl
      have HE := hide (fun (_ : Nat) => hts)
      have hwr : g0 ≤ wr.heap.size := by have := hb.size; omega
      clear hq ho hrd hr hb hl hts
      by_cases hlt : i < m
      · have hlt' : (i : Int) < (m : Int) := by omega
        have HSH := hide (fun (w' : World) (g B0 : Nat) (h : RdrAt w' g B0 s') => share_any s' w' g B0 h)
        have HTP := hide (fun (_ : Nat) => show Msg.testP s' = (⟨(Msg.shareP s').1, (Msg.numP 1 (Msg.shareP s').2).1 == 1, (Msg.rowP 32 (Msg.numP 1 (Msg.shareP s').2).2).1⟩, ⟨(Msg.rowP 32 (Msg.numP 1 (Msg.shareP s').2).2).2.b, (Msg.rowP 32 (Msg.numP 1 (Msg.shareP s').2).2).2.bad || (((Msg.numP 1 (Msg.shareP s').2).1 == 1) && decide ((Msg.rowP 32 (Msg.numP 1 (Msg.shareP s').2).2).1 ≠ Msg.z32))⟩) from rfl)
        have HN1 := hide (fun (w' : World) (g B0 : Nat) (h : RdrAt w' g B0 (Msg.shareP s').2) => num_any 1 (by omega) (Msg.shareP s').2 w' g B0 h)
        have HR32 := hide (fun (w' : World) (g B0 : Nat) (h : RdrAt w' g B0 (Msg.numP 1 (Msg.shareP s').2).2) => row_any 32 (Msg.numP 1 (Msg.shareP s').2).2 w' g B0 h (by omega))
        have HXL := hide (show (Msg.rowP 32 (Msg.numP 1 (Msg.shareP s').2).2).1.length = 32 from by have := rowP_len (n := 32) (by omega) (Msg.numP 1 (Msg.shareP s').2).2; omega)
        generalize Msg.rowP 32 (Msg.numP 1 (Msg.shareP s').2).2 = P3 at *
        generalize Msg.numP 1 (Msg.shareP s').2 = P2 at *
        generalize Msg.shareP s' = P1 at *
        obtain ⟨num, sa⟩ := P1
        obtain ⟨xa, sb⟩ := P2
        obtain ⟨wt, sd⟩ := P3
        simp only at HSH HTP HN1 HR32 HXL
        go_wp2_with fail
        refine (HSH.out _ _ _ HRD.out).mono ?_
        rintro e w5 ⟨rfl, hr5, hg5⟩
        replace HO := hide (HO.out.pastR HRD.out hg5)
        replace HRD := hide hr5
        replace HQ := hide (HQ.out.grown hg5 (by intro e; injection e; omega))
        replace HR := hide (HR.out.grown hg5 (by intro e; injection e; omega))
        replace HW := hide (HW.out.grown hg5 hwr (by intro k hk; injection hk; omega))
        clear hr5 hg5
        go_wp2_with fail
        refine (HN1.out _ _ _ HRD.out).mono ?_
        rintro e w6 ⟨rfl, hr6, hg6⟩
        have hz5 := HW.out.size
        replace HO := hide (HO.out.pastR HRD.out hg6)
        replace HRD := hide hr6
        replace HQ := hide (HQ.out.grown hg6 (by intro e; injection e; omega))
        replace HR := hide (HR.out.grown hg6 (by intro e; injection e; omega))
        replace HW := hide (HW.out.grown hg6 (by omega) (by intro k hk; injection hk; omega))
        clear hr6 hg6
        obtain ⟨q, HQB⟩ : ∃ q, (xa == 1) = q := ⟨_, rfl⟩
        go_wp2_with fail
        refine (HR32.out _ _ _ HRD.out).mono ?_
        rintro e w7 ⟨v39, rfl, ho39, hr7, hg7⟩
        have hz6 := HW.out.size
        replace HO := hide (HO.out.pastR HRD.out hg7)
        have hlt6 := HRD.out.lt
        replace HRD := hide hr7
        replace HQ := hide (HQ.out.grown hg7 (by intro e; injection e; omega))
        replace HR := hide (HR.out.grown hg7 (by intro e; injection e; omega))
        replace HW := hide (HW.out.grown hg7 (by omega) (by intro k hk; injection hk; omega))
        obtain ⟨g39, c39, rfl, hgb39, hrg39, _⟩ := ho39.blockOf (by rw [HXL.out]; omega)
        rw [HXL.out]
        have HRG := hide hrg39
        have HBT := hide (built_tst num q wt HXL.out)
        have HTL := hide (tst_len (t := ⟨num, q, wt⟩) HXL.out)
        have hz7 := HW.out.size
        have hsz := hg7.size
        have hltA := HRD.out.lt
        have hltB := HQ.out.lt
        clear hr7 hg7 ho39 hrg39 HSH HN1 HR32
        obtain ⟨g6, HG6⟩ : ∃ k, Hid (w7.heap.size = k) := ⟨_, hide rfl⟩
        have hg6a : g4 < g6 ∧ g5 < g6 ∧ g0 < g6 := by have := HG6.out; omega
        have HK7 := hide (Below.refl w7.heap.size w7)
        go_upto_region 6 with (first
          | (refine wpList_val rfl (exec_arrayAtG _ _ rfl _ 32 (some ⟨g39, 0, none⟩) 32 c39 rfl Tryd.underlying58 (by omega)) ?_)
          | (refine wpList_val rfl (exec_loadAll 58 _ rfl g39 0 rfl _ (u8s wt) HRG.out Tryd.underlying58 rfl (by rw [u8s_len, HXL.out]; exact size_hash32)) ?_)
          | (refine wpList_val rfl (exec_build3 60 _ _ _ _ _ _ rfl _ _ _ rfl rfl rfl (tstC ⟨num, q, wt⟩) HBT.out) ?_)
          | (refine wpList_alloc_blk rfl 60 rfl _ zero_tst ?_; intro w8 hb8 hw8 hs8; rw [HG6.out] at hb8 hw8; try rw [HG6.out]; have H6 := hide hb8; replace HK7 := hide (HK7.out.trans (hw8.mono (by have := HG6.out; omega))); replace HRD := hide (HRD.out.far (hw8.mono (by have := HG6.out; omega))); replace HQ := hide (HQ.out.below hw8 (by omega)); replace HR := hide (HR.out.below hw8 (by omega)); replace HW := hide (HW.out.trans (hw8.mono (by omega))); clear hb8 hw8 hs8)
          | (refine wpList_st_putAll _ _ _ rfl rfl rfl H6.out (tstC ⟨num, q, wt⟩) rfl (by rw [HTL.out]; rfl) (by rw [HTL.out]; exact size_tst) (tst_ones _) ?_; intro w9 hb9 hg9 hs9; replace HK7 := hide (HK7.out.grown hg9 (by have := HK7.out.size; omega) (by intro k hk; injection hk; have := HG6.out; omega)); replace HRD := hide (HRD.out.pastT H6.out (by decide) hg9 (by omega)); replace H6 := hide hb9; replace HQ := hide (HQ.out.grown hg9 (by intro e; injection e; omega)); replace HR := hide (HR.out.grown hg9 (by intro e; injection e; omega)); replace HW := hide (HW.out.grown hg9 (by have := HW.out.size; omega) (by intro k hk; injection hk; omega)); clear hb9 hg9 hs9))
        replace HO := hide (HO.out.keptB HK7.out)
        clear HK7 HRG
        obtain ⟨sbb, sbad⟩ := sd
        obtain ⟨rv, hbk, _⟩ := HRD.out
        have HK := hide hbk
        clear hbk
        have HWR := hide (tst_want H6.out)
        obtain ⟨q2, HQ2⟩ : ∃ x, Hid ((!decide (wt = List.replicate 32 0)) = x) := ⟨_, hide rfl⟩
        rcases sbad with _ | _
        case true =>
          replace HK := hide (show Blk w9 g4 69 [rv, .bool true] from HK.out)
          go_upto_region 7 with (first
            | go_skip
            | go_guarded
            | (refine wpList_st_get 4 _ rfl 1 rfl rfl HK.out _ Tryd.underlying4 rfl _ rfl ?_)
            | (refine wpList_st_get 4 _ rfl 1 rfl rfl H6.out _ Tryd.underlying4 rfl _ rfl ?_)
            | (refine wpList_val rfl (exec_loadAll 58 _ rfl g6 2 rfl _ (u8s wt) HWR.out Tryd.underlying58 rfl (by rw [u8s_len, HXL.out]; exact size_hash32)) ?_)
            | (refine wpList_st_build 58 #[] rfl rfl (u8s (List.replicate 32 0)) built_hash0 ?_)
            | (refine wpList_val rfl (exec_neq_hash _ _ _ rfl wt (List.replicate 32 0) rfl rfl HXL.out rfl q2 HQ2.out) ?_)
            | (refine wpList_st_put 4 _ _ rfl 1 rfl rfl HK.out (by simp) (.bool true) rfl rfl size_bool1 ?_; intro wA hkA hgA hsA; clear hsA))
          replace HO := hide (HO.out.past HK.out (by decide) hgA)
          replace HRD := hide (HRD.out.turn HK.out (show Blk wA g4 _ [rv, .bool true] from hkA) hgA)
          replace H6 := hide (H6.out.grown hgA (by intro e; injection e; omega))
          replace HQ := hide (HQ.out.grown hgA (by intro e; injection e; omega))
          replace HR := hide (HR.out.grown hgA (by intro e; injection e; omega))
          replace HW := hide (HW.out.grown hgA (by have := HW.out.size; omega) (by intro k hk; injection hk; omega))
          clear hkA hgA HK
          have hwA := HW.out.size
          go_wp2_with (first
            | (refine wpList_rq_tests _ rfl rfl rfl HQ.out ?_)
            | (refine wpList_st_all 60 _ rfl rfl rfl H6.out _ Tryd.underlying60 rfl (by rw [HTL.out]; exact size_tst) ?_)
            | (refine wpList_lit_tst rfl _ rfl ⟨num, q, wt⟩ HXL.out rfl ?_)
            | (at_builtin; refine wpList_append_tst rfl _ _ rfl g0 vt l rfl HO.out (by omega) (by have := HL.out; omega) ⟨num, q, wt⟩ HXL.out rfl ?_; intro v64 wB hoB hbzB hwB; obtain ⟨w1B, hb1B, hgB, hoB1⟩ := hwB; have HO2 := hide hoB; replace HRD := hide ((HRD.out.far hb1B).pastW hoB1.1 (by decide) (by decide) (Nat.le_refl _) hgB); replace HQ := hide ((HQ.out.below hb1B HQ.out.lt).grown hgB (own_ne_blk hoB1.1 (HQ.out.below hb1B HQ.out.lt).blk (by decide))); replace HR := hide ((HR.out.below hb1B HR.out.lt).grown hgB (own_ne_blk hoB1.1 (HR.out.below hb1B HR.out.lt).blk (by decide))); replace HW := hide ((HW.out.trans (hb1B.mono (by have := HW.out.size; omega))).grown hgB (by have := HW.out.size; have := hb1B.size; omega) (fun k hk => (hbzB k hk).1)); have HV64 := hide hoB.one; clear hoB hbzB hb1B hgB hoB1)
            | (refine wpList_rq_putT _ _ rfl rfl rfl HQ.out _ rfl HV64.out ?_; intro wC hbC hgC hsC; replace HO2 := hide (HO2.out.past HQ.out.blk (by decide) hgC); replace HRD := hide (HRD.out.pastT HQ.out.blk (by decide) hgC hg45); replace HQ := hide hbC; replace HR := hide (HR.out.grown hgC (by intro e; injection e; omega)); replace HW := hide (HW.out.grown hgC (by have := HW.out.size; omega) (by intro k hk; injection hk; omega)); clear hbC hgC hsC))
          refine ⟨⟨i + 1, l ++ [⟨num, q, wt⟩], ⟨sbb, true⟩, v64, rfl, by omega, by rw [List.length_append, HL.out]; rfl, HQ.out, HO2.out, HRD.out, HR.out, HW.out, Msg.tests_round hlt (HE.out 0) ?_⟩, by show m - ((i : Int) + 1).toNat < m - (i : Int).toNat; omega⟩
          rw [HTP.out 0]
          rw [HQB]; rfl
        replace HK := hide (show Blk w9 g4 69 [rv, .bool false] from HK.out)
        rcases q with _ | _
        case false =>
          go_upto_region 7 with (first
            | go_skip
            | (refine wpList_st_get 4 _ rfl 1 rfl rfl HK.out _ Tryd.underlying4 rfl _ rfl ?_)
            | (refine wpList_st_get 4 _ rfl 1 rfl rfl H6.out _ Tryd.underlying4 rfl _ rfl ?_)
            | go_guarded
            | (refine wpList_val rfl (exec_loadAll 58 _ rfl g6 2 rfl _ (u8s wt) HWR.out Tryd.underlying58 rfl (by rw [u8s_len, HXL.out]; exact size_hash32)) ?_)
            | (refine wpList_st_build 58 #[] rfl rfl (u8s (List.replicate 32 0)) built_hash0 ?_)
            | (refine wpList_val rfl (exec_neq_hash _ _ _ rfl wt (List.replicate 32 0) rfl rfl HXL.out rfl q2 HQ2.out) ?_)
            | (refine wpList_st_put 4 _ _ rfl 1 rfl rfl HK.out (by simp) (.bool false) rfl rfl size_bool1 ?_; intro wA hkA hgA hsA; clear hsA))
          replace HO := hide (HO.out.past HK.out (by decide) hgA)
          replace HRD := hide (HRD.out.turn HK.out (show Blk wA g4 _ [rv, .bool false] from hkA) hgA)
          replace H6 := hide (H6.out.grown hgA (by intro e; injection e; omega))
          replace HQ := hide (HQ.out.grown hgA (by intro e; injection e; omega))
          replace HR := hide (HR.out.grown hgA (by intro e; injection e; omega))
          replace HW := hide (HW.out.grown hgA (by have := HW.out.size; omega) (by intro k hk; injection hk; omega))
          clear hkA hgA HK
          have hwA := HW.out.size
          go_wp2_with (first
            | (refine wpList_rq_tests _ rfl rfl rfl HQ.out ?_)
            | (refine wpList_st_all 60 _ rfl rfl rfl H6.out _ Tryd.underlying60 rfl (by rw [HTL.out]; exact size_tst) ?_)
            | (refine wpList_lit_tst rfl _ rfl ⟨num, false, wt⟩ HXL.out rfl ?_)
            | (at_builtin; refine wpList_append_tst rfl _ _ rfl g0 vt l rfl HO.out (by omega) (by have := HL.out; omega) ⟨num, false, wt⟩ HXL.out rfl ?_; intro v64 wB hoB hbzB hwB; obtain ⟨w1B, hb1B, hgB, hoB1⟩ := hwB; have HO2 := hide hoB; replace HRD := hide ((HRD.out.far hb1B).pastW hoB1.1 (by decide) (by decide) (Nat.le_refl _) hgB); replace HQ := hide ((HQ.out.below hb1B HQ.out.lt).grown hgB (own_ne_blk hoB1.1 (HQ.out.below hb1B HQ.out.lt).blk (by decide))); replace HR := hide ((HR.out.below hb1B HR.out.lt).grown hgB (own_ne_blk hoB1.1 (HR.out.below hb1B HR.out.lt).blk (by decide))); replace HW := hide ((HW.out.trans (hb1B.mono (by have := HW.out.size; omega))).grown hgB (by have := HW.out.size; have := hb1B.size; omega) (fun k hk => (hbzB k hk).1)); have HV64 := hide hoB.one; clear hoB hbzB hb1B hgB hoB1)
            | (refine wpList_rq_putT _ _ rfl rfl rfl HQ.out _ rfl HV64.out ?_; intro wC hbC hgC hsC; replace HO2 := hide (HO2.out.past HQ.out.blk (by decide) hgC); replace HRD := hide (HRD.out.pastT HQ.out.blk (by decide) hgC hg45); replace HQ := hide hbC; replace HR := hide (HR.out.grown hgC (by intro e; injection e; omega)); replace HW := hide (HW.out.grown hgC (by have := HW.out.size; omega) (by intro k hk; injection hk; omega)); clear hbC hgC hsC))
          refine ⟨⟨i + 1, l ++ [⟨num, false, wt⟩], ⟨sbb, false⟩, v64, rfl, by omega, by rw [List.length_append, HL.out]; rfl, HQ.out, HO2.out, HRD.out, HR.out, HW.out, Msg.tests_round hlt (HE.out 0) ?_⟩, by show m - ((i : Int) + 1).toNat < m - (i : Int).toNat; omega⟩
          rw [HTP.out 0]
          rw [HQB]; rfl
        case true =>
          go_upto_region 7 with (first
            | go_skip
            | (refine wpList_st_get 4 _ rfl 1 rfl rfl HK.out _ Tryd.underlying4 rfl _ rfl ?_)
            | (refine wpList_st_get 4 _ rfl 1 rfl rfl H6.out _ Tryd.underlying4 rfl _ rfl ?_)
            | (refine wpList_val rfl (exec_loadAll 58 _ rfl g6 2 rfl _ (u8s wt) HWR.out Tryd.underlying58 rfl (by rw [u8s_len, HXL.out]; exact size_hash32)) ?_)
            | (refine wpList_st_build 58 #[] rfl rfl (u8s (List.replicate 32 0)) built_hash0 ?_)
            | (refine wpList_val rfl (exec_neq_hash _ _ _ rfl wt (List.replicate 32 0) rfl rfl HXL.out rfl q2 HQ2.out) ?_)
            | (refine wpList_st_put 4 _ _ rfl 1 rfl rfl HK.out (by simp) (.bool q2) rfl rfl size_bool1 ?_; intro wA hkA hgA hsA; clear hsA))
          replace HO := hide (HO.out.past HK.out (by decide) hgA)
          replace HRD := hide (HRD.out.turn HK.out (show Blk wA g4 _ [rv, .bool q2] from hkA) hgA)
          replace H6 := hide (H6.out.grown hgA (by intro e; injection e; omega))
          replace HQ := hide (HQ.out.grown hgA (by intro e; injection e; omega))
          replace HR := hide (HR.out.grown hgA (by intro e; injection e; omega))
          replace HW := hide (HW.out.grown hgA (by have := HW.out.size; omega) (by intro k hk; injection hk; omega))
          clear hkA hgA HK
          have hwA := HW.out.size
          go_wp2_with (first
            | (refine wpList_rq_tests _ rfl rfl rfl HQ.out ?_)
            | (refine wpList_st_all 60 _ rfl rfl rfl H6.out _ Tryd.underlying60 rfl (by rw [HTL.out]; exact size_tst) ?_)
            | (refine wpList_lit_tst rfl _ rfl ⟨num, true, wt⟩ HXL.out rfl ?_)
            | (at_builtin; refine wpList_append_tst rfl _ _ rfl g0 vt l rfl HO.out (by omega) (by have := HL.out; omega) ⟨num, true, wt⟩ HXL.out rfl ?_; intro v64 wB hoB hbzB hwB; obtain ⟨w1B, hb1B, hgB, hoB1⟩ := hwB; have HO2 := hide hoB; replace HRD := hide ((HRD.out.far hb1B).pastW hoB1.1 (by decide) (by decide) (Nat.le_refl _) hgB); replace HQ := hide ((HQ.out.below hb1B HQ.out.lt).grown hgB (own_ne_blk hoB1.1 (HQ.out.below hb1B HQ.out.lt).blk (by decide))); replace HR := hide ((HR.out.below hb1B HR.out.lt).grown hgB (own_ne_blk hoB1.1 (HR.out.below hb1B HR.out.lt).blk (by decide))); replace HW := hide ((HW.out.trans (hb1B.mono (by have := HW.out.size; omega))).grown hgB (by have := HW.out.size; have := hb1B.size; omega) (fun k hk => (hbzB k hk).1)); have HV64 := hide hoB.one; clear hoB hbzB hb1B hgB hoB1)
            | (refine wpList_rq_putT _ _ rfl rfl rfl HQ.out _ rfl HV64.out ?_; intro wC hbC hgC hsC; replace HO2 := hide (HO2.out.past HQ.out.blk (by decide) hgC); replace HRD := hide (HRD.out.pastT HQ.out.blk (by decide) hgC hg45); replace HQ := hide hbC; replace HR := hide (HR.out.grown hgC (by intro e; injection e; omega)); replace HW := hide (HW.out.grown hgC (by have := HW.out.size; omega) (by intro k hk; injection hk; omega)); clear hbC hgC hsC))
          refine ⟨⟨i + 1, l ++ [⟨num, true, wt⟩], ⟨sbb, q2⟩, v64, rfl, by omega, by rw [List.length_append, HL.out]; rfl, HQ.out, HO2.out, HRD.out, HR.out, HW.out, Msg.tests_round hlt (HE.out 0) ?_⟩, by show m - ((i : Int) + 1).toNat < m - (i : Int).toNat; omega⟩
          rw [HTP.out 0]
          have hz : decide (wt ≠ Msg.z32) = !decide (wt = List.replicate 32 0) := by
            by_cases hz : wt = List.replicate 32 0
            · rw [decide_eq_false (fun h : wt ≠ Msg.z32 => h hz), decide_eq_true hz]; rfl
            · rw [decide_eq_true (show wt ≠ Msg.z32 from hz), decide_eq_false hz]; rfl
          rw [HQB, ← HQ2.out, hz]
          rfl
      · obtain rfl : i = m := by omega
        have hlt' : ¬ (i : Int) < (i : Int) := by omega
        have hE0 := HE.out 0
        rw [Nat.sub_self] at hE0
        have h1 : ts = l := by have := congrArg Prod.fst hE0; simpa [Msg.testsN] using this
        have h2 : s7 = s' := by have := congrArg Prod.snd hE0; simpa [Msg.testsN] using this
        subst h1 h2
        have HBL := hide (fun (w' : World) (g B0 : Nat) (h : RdrAt w' g B0 s7) => rblobs_anyR s7 w' g B0 h)
        rw [← HBNN.out 0] at HBL
        simp only at HBL
        have HTL := hide HL.out
        clear hE0 HE HTNN HBNN
        go_wp2_with fail
        refine (HBL.out _ _ _ HRD.out).mono ?_
        rintro e w4 ⟨v4, rfl, ho4, hr4, hg4⟩
        replace HO := hide (HO.out.pastR HRD.out hg4)
        replace HRD := hide hr4
        have HOB := hide ho4
        replace HQ := hide (HQ.out.grown hg4 (by intro e; injection e; omega))
        replace HR := hide (HR.out.grown hg4 (by intro e; injection e; omega))
        replace HW := hide (HW.out.grown hg4 hwr (by intro k hk; injection hk; omega))
        have hz4 := hg4.size
        have HV4 := hide ho4.one
        obtain ⟨base, HBA⟩ : ∃ k, Hid (wr.heap.size = k) := ⟨_, hide rfl⟩
        rw [HBA.out] at HOB
        have hba : g0 ≤ base ∧ base ≤ w4.heap.size := by have := HBA.out; omega
        clear hr4 hg4 ho4 HBL
        have hltQ := HQ.out.lt
        have hltR := HRD.out.lt
        go_upto_region 10 with (first
          | (refine wpList_rq_putB _ _ rfl rfl rfl HQ.out _ rfl HV4.out ?_; intro wC hbC hgC hsC; replace HO := hide (HO.out.past HQ.out.blk (by decide) hgC); replace HOB := hide (HOB.out.past HQ.out.blk (by decide) (by decide) hgC); replace HRD := hide (HRD.out.pastT HQ.out.blk (by decide) hgC hg45); replace HQ := hide hbC; replace HR := hide (HR.out.grown hgC (by intro e; injection e; omega)); replace HW := hide (HW.out.grown hgC (by omega) (by intro k hk; injection hk; omega)); clear hbC hgC))
        obtain ⟨rv, hbk, _⟩ := HRD.out
        have HK := hide hbk
        clear hbk HRD
        have HK0 := hide (show QQ.kind = k0 by rw [← HQQ.out])
        have HE0 := hide (show QQ.ends = e0 by rw [← HQQ.out])
        obtain ⟨QF, HQF⟩ : ∃ q : Msg.Req, Hid (⟨k0, i0, sc, e0, en, ts, bl⟩ = q) := ⟨_, hide rfl⟩
        rw [HQF.out] at HYES HNO HRIG
        obtain ⟨s8b, s8bad⟩ := s8
        have hkk := HK0.out
        have hee := HE0.out
        by_cases hbad : s8bad = true ∨ k0 < 1 ∨ 6 < k0 ∨ 1048576 < e0
        · have HNR := hide (HBAD.out 0 hbad)
          clear HBAD HYES HNO HRIG
          have bads : s8bad = true ∨ s8bad = false := by cases s8bad <;> simp
          rcases bads with rfl | rfl
          · clear hbad hkk hee
            go_wp2_with (first
              | go_skip
              | (refine wpList_st_get 4 _ rfl 1 rfl rfl HK.out _ Tryd.underlying4 rfl _ rfl ?_)
              | (refine wpList_rq_kind _ rfl rfl rfl HQ.out ?_)
              | (refine wpList_rq_ends _ rfl rfl rfl HQ.out ?_)
              | (refine wpList_st_build 31 _ rfl rfl (reqCells req0 (.slice none 0 0) (.slice none 0 0)) built_req0 ?_)
              | (refine wpList_rq_putAll _ _ rfl rfl rfl HR.out req0 (.slice none 0 0) (.slice none 0 0) rfl req0_keys rfl rfl ?_; intro w9 hb9 hg9 hs9; replace HR := hide hb9; replace HW := hide (HW.out.grown hg9 (by omega) (by intro k hk; injection hk; omega)); clear hb9 hg9)
              | (exact bodyPost_ret (results_st rfl _ _ g0 _ _ rfl HR.out.blk _ Tryd.underlying31 rfl size_req0 _ rfl) rfl (.inr ⟨HNR.out, rfl, by rw [HG.out]; exact HW.out⟩)))
          replace hbad : QQ.kind < 1 ∨ 6 < QQ.kind ∨ 1048576 < QQ.ends := by
            rcases hbad with h | h
            · cases h
            · rw [hkk, hee]; exact h
          clear hkk hee
          by_cases hk1 : QQ.kind < 1
          · clear hbad
            go_wp2_with (first
              | go_skip
              | (refine wpList_st_get 4 _ rfl 1 rfl rfl HK.out _ Tryd.underlying4 rfl _ rfl ?_)
              | (refine wpList_rq_kind _ rfl rfl rfl HQ.out ?_)
              | (refine wpList_rq_ends _ rfl rfl rfl HQ.out ?_)
              | (refine wpList_st_build 31 _ rfl rfl (reqCells req0 (.slice none 0 0) (.slice none 0 0)) built_req0 ?_)
              | (refine wpList_rq_putAll _ _ rfl rfl rfl HR.out req0 (.slice none 0 0) (.slice none 0 0) rfl req0_keys rfl rfl ?_; intro w9 hb9 hg9 hs9; replace HR := hide hb9; replace HW := hide (HW.out.grown hg9 (by omega) (by intro k hk; injection hk; omega)); clear hb9 hg9)
              | (exact bodyPost_ret (results_st rfl _ _ g0 _ _ rfl HR.out.blk _ Tryd.underlying31 rfl size_req0 _ rfl) rfl (.inr ⟨HNR.out, rfl, by rw [HG.out]; exact HW.out⟩)))
          by_cases hk6 : 6 < QQ.kind
          · clear hbad
            go_wp2_with (first
              | go_skip
              | (refine wpList_st_get 4 _ rfl 1 rfl rfl HK.out _ Tryd.underlying4 rfl _ rfl ?_)
              | (refine wpList_rq_kind _ rfl rfl rfl HQ.out ?_)
              | (refine wpList_rq_ends _ rfl rfl rfl HQ.out ?_)
              | (refine wpList_st_build 31 _ rfl rfl (reqCells req0 (.slice none 0 0) (.slice none 0 0)) built_req0 ?_)
              | (refine wpList_rq_putAll _ _ rfl rfl rfl HR.out req0 (.slice none 0 0) (.slice none 0 0) rfl req0_keys rfl rfl ?_; intro w9 hb9 hg9 hs9; replace HR := hide hb9; replace HW := hide (HW.out.grown hg9 (by omega) (by intro k hk; injection hk; omega)); clear hb9 hg9)
              | (exact bodyPost_ret (results_st rfl _ _ g0 _ _ rfl HR.out.blk _ Tryd.underlying31 rfl size_req0 _ rfl) rfl (.inr ⟨HNR.out, rfl, by rw [HG.out]; exact HW.out⟩)))
          have hke : 1048576 < QQ.ends := by rcases hbad with h | h | h <;> first | exact absurd h hk1 | exact absurd h hk6 | exact h
          clear hbad
          go_wp2_with (first
            | go_skip
            | (refine wpList_st_get 4 _ rfl 1 rfl rfl HK.out _ Tryd.underlying4 rfl _ rfl ?_)
            | (refine wpList_rq_kind _ rfl rfl rfl HQ.out ?_)
            | (refine wpList_rq_ends _ rfl rfl rfl HQ.out ?_)
            | (refine wpList_st_build 31 _ rfl rfl (reqCells req0 (.slice none 0 0) (.slice none 0 0)) built_req0 ?_)
            | (refine wpList_rq_putAll _ _ rfl rfl rfl HR.out req0 (.slice none 0 0) (.slice none 0 0) rfl req0_keys rfl rfl ?_; intro w9 hb9 hg9 hs9; replace HR := hide hb9; replace HW := hide (HW.out.grown hg9 (by omega) (by intro k hk; injection hk; omega)); clear hb9 hg9)
            | (exact bodyPost_ret (results_st rfl _ _ g0 _ _ rfl HR.out.blk _ Tryd.underlying31 rfl size_req0 _ rfl) rfl (.inr ⟨HNR.out, rfl, by rw [HG.out]; exact HW.out⟩)))
        have HRI := hide (HRIG.out 0 hbad)
        have HSO2 := hide (HYES.out 0 hbad)
        have HNO2 := hide (HNO.out 0 hbad)
        have hk1 : ¬ QQ.kind < 1 := by rw [hkk]; exact fun h => hbad (.inr (.inl h))
        have hk6 : ¬ 6 < QQ.kind := by rw [hkk]; exact fun h => hbad (.inr (.inr (.inl h)))
        have hke : ¬ 1048576 < QQ.ends := by rw [hee]; exact fun h => hbad (.inr (.inr (.inr h)))
        rcases s8bad with _ | _
        case true => exact absurd (.inl rfl) hbad
        have HQ2 := hide (show ReqB wC g5 QF vt v4 from by have := HQ.out; rw [← HQQ.out] at this; rw [← HQF.out]; exact ⟨this.blk, ⟨this.keys.i, this.keys.s, this.keys.e⟩, this.oneT, this.oneB⟩)
        have HTS := hide (show QF.tests = ts by rw [← HQF.out])
        have HBS := hide (show QF.blobs = bl by rw [← HQF.out])
        have HKF := hide (show KeysR QF from HQ2.out.keys)
        have HSY := hide (fun (w' : World) (hts : TstsB w' w'.heap.size vt ts) (hbs : BlbsB w' w'.heap.size v4 bl) (ht : Tab w' w'.heap.size) => Ask_any QF vt v4 w' (askIn_right HRI.out) (by rw [HTS.out]; exact hts) (by rw [HBS.out]; exact hbs) ht)
        obtain ⟨sr, HSR⟩ : ∃ x, Hid (Msg.askF QF = x) := ⟨_, hide rfl⟩
        rw [HSR.out] at HSY HSO2 HNO2
        clear HBAD HYES HNO HRIG hbad hkk hee HSR
        go_wp2_with (first
          | go_skip
          | (refine wpList_st_get 4 _ rfl 1 rfl rfl HK.out _ Tryd.underlying4 rfl _ rfl ?_)
          | (refine wpList_rq_kind _ rfl rfl rfl HQ.out ?_)
          | (refine wpList_rq_ends _ rfl rfl rfl HQ.out ?_)
          | (refine wpList_rq_all _ rfl rfl rfl HQ2.out ?_))
        have hz5 := HW.out.size
        have hS7 := HSY.out wC (HO.out.reads) (HOB.out.toB.reads (by omega)) ((HT.out.below (HW.out.mono (by have := HG.out; omega)) (Nat.le_refl _)).more (by omega))
        refine hS7.mono ?_
        clear hS7 HSY
        rintro e w7 (⟨vc, cc, hs, rfl, hoc, hb7⟩ | ⟨hs, rfl, hb7⟩)
        case inr =>
          have hz7 := hb7.size
          have HNR := hide (HNO2.out (by rw [hs]; exact fun h => by cases h))
          replace HR := hide (HR.out.below hb7 (by have := HR.out.lt; omega))
          replace HW := hide (HW.out.trans (hb7.mono (by omega)))
          clear hs hb7 HSO2 HNO2
          go_wp2_with (first
            | go_skip
            | (refine wpList_st_build 31 _ rfl rfl (reqCells req0 (.slice none 0 0) (.slice none 0 0)) built_req0 ?_)
            | (refine wpList_rq_putAll _ _ rfl rfl rfl HR.out req0 (.slice none 0 0) (.slice none 0 0) rfl req0_keys rfl rfl ?_; intro w9 hb9 hg9 hs9; replace HR := hide hb9; replace HW := hide (HW.out.grown hg9 (by omega) (by intro k hk; injection hk; omega)); clear hb9 hg9)
            | (exact bodyPost_ret (results_st rfl _ _ g0 _ _ rfl HR.out.blk _ Tryd.underlying31 rfl size_req0 _ rfl) rfl (.inr ⟨HNR.out, rfl, by rw [HG.out]; exact HW.out⟩)))
        have hz7 := hb7.size
        replace HR := hide (HR.out.below hb7 HR.out.lt)
        replace HQ2 := hide (HQ2.out.below hb7 HQ2.out.lt)
        replace HO := hide (HO.out.keptB hb7)
        replace HOB := hide (HOB.out.keptB hb7)
        replace HW := hide (HW.out.trans (hb7.mono (by omega)))
        have HC := hide hoc.reads
        have HCB := hide hoc.bytes
        obtain ⟨q, hq⟩ : ∃ q, decide (cc = b) = q := ⟨_, rfl⟩
        have HEQ := hide (equal_rows vc (.slice A n c) cc b w7 w7.heap.size HC.out (by have := HG.out; exact (by have h := (HV'.out.below (HW.out.mono (by omega : w.heap.size ≤ g0)) (Nat.le_refl _)).more (by omega : w.heap.size ≤ w7.heap.size); rw [HN.out] at h; exact h)) HCB.out HBY.out q hq)
        have HB7 := hide hb7
        rcases q with _ | _
        · have HNR := hide (HNO2.out (by rw [hs]; exact fun h => by injection h with h; exact of_decide_eq_false hq h))
          clear hs hb7 HSO2 HNO2 hq hoc
          go_wp2_with (first
            | go_skip
            | (go_at_call 36; refine HEQ.out.mono ?_; rintro e w8 ⟨rfl, hb8⟩; have hz8 := hb8.size; replace HR := hide (HR.out.below hb8 HR.out.lt); replace HW := hide (HW.out.trans (hb8.mono (by omega))); clear hb8)
            | (refine wpList_st_build 31 _ rfl rfl (reqCells req0 (.slice none 0 0) (.slice none 0 0)) built_req0 ?_)
            | (refine wpList_rq_putAll _ _ rfl rfl rfl HR.out req0 (.slice none 0 0) (.slice none 0 0) rfl req0_keys rfl rfl ?_; intro w9 hb9 hg9 hs9; replace HR := hide hb9; replace HW := hide (HW.out.grown hg9 (by omega) (by intro k hk; injection hk; omega)); clear hb9 hg9)
            | (exact bodyPost_ret (results_st rfl _ _ g0 _ _ rfl HR.out.blk _ Tryd.underlying31 rfl size_req0 _ rfl) rfl (.inr ⟨HNR.out, rfl, by rw [HG.out]; exact HW.out⟩)))
        · have HYR := hide (HSO2.out (by rw [hs, of_decide_eq_true hq]))
          clear hs hb7 HSO2 HNO2 hq hoc
          have HTV := hide HO.out.one
          have HSZ := hide (show (Tryd.prog.info? 31).map (·.size) = some (reqCells QF vt v4).length by rw [rq_len HKF.out]; exact size_req)
          go_wp2_with (first
            | go_skip
            | (go_at_call 36; refine HEQ.out.mono ?_; rintro e w8 ⟨rfl, hb8⟩; have hz8 := hb8.size; replace HR := hide (HR.out.below hb8 HR.out.lt); replace HQ2 := hide (HQ2.out.below hb8 HQ2.out.lt); replace HO := hide (HO.out.keptB hb8); replace HOB := hide (HOB.out.keptB hb8); replace HW := hide (HW.out.trans (hb8.mono (by omega))); clear hb8)
            | (refine wpList_rq_all _ rfl rfl rfl HQ2.out ?_)
            | (refine wpList_rq_putAll _ _ rfl rfl rfl HR.out QF vt v4 rfl HKF.out HTV.out HV4.out ?_; intro w9 hb9 hg9 hs9; replace HO := hide (HO.out.past HR.out.blk (by decide) hg9); replace HOB := hide (HOB.out.past HR.out.blk (by decide) (by decide) hg9); replace HR := hide hb9; replace HW := hide (HW.out.grown hg9 (by omega) (by intro k hk; injection hk; omega)); clear hb9 hg9)
            | (exact bodyPost_ret (results_st rfl _ _ g0 _ _ rfl HR.out.blk _ Tryd.underlying31 rfl HSZ.out _ rfl) rfl (.inl ⟨_, _, QF, HYR.out, rfl, HKF.out, by rw [HTS.out]; exact HO.out.reads, by rw [HBS.out]; exact HOB.out.toB.reads (by omega), by rw [HG.out]; exact HW.out⟩)))
end Go.Proofs.YtfinfkodjkfibaaDoor
