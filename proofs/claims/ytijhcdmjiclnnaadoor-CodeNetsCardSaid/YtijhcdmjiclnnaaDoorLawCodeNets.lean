/- P1.2: a row with its length, and rows, one behind the other: the program's and the reference's; what is lent stays whole. Condition: the library's tables are laid (tied to the program's text). -/
import Derived.Test.YtijhcdmjiclnnaaDoorFrameRowsB
import Derived.Test.YtijhcdmjiclnnaaDoorFrameBytes
import Derived.Test.YtijhcdmjiclnnaaDoorTied
import Derived.Test.YtijhcdmjiclnnaaDoorWakes01
import Derived.Test.YtijhcdmjiclnnaaDoorNets
import Derived.Test.YtijhcdmjiclnnaaDoorRefNet
import Derived.Test.YtijhcdmjiclnnaaDoorLend
import Derived.Test.YtijhcdmjiclnnaaDoorIntact
import Derived.Test.YtijhcdmjiclnnaaDoorSpoilB
import Derived.Deep.DeepCutAuto
import Derived.Deep.CutRange
import Derived.LoopIn
import Derived.Deep.CutBlock
namespace Go.Proofs.YtijhcdmjiclnnaaDoor.LawCodeNets
open Go Go.RowKit Go.ChangeShapes Go.WideShapes Go.ChangeAt Go.Proofs.YtijhcdmjiclnnaaDoor
set_option linter.unusedVariables false

set_option maxHeartbeats 4000000 in
theorem walk (w : World) (ht : Tab w w.heap.size) (v0 : Value) (b : List Int) (hv0 : Bs w w.heap.size v0 b) (hb0 : Bytes b) (v : Value) (l : List (List Int)) (hv : RowsB w w.heap.size v l) (hb : ∀ x ∈ l, Bytes x) :
    Calls Tryd.prog 4 #[v0, v] w fun e w' => e = .returned (.bool true) ∧ Below w.heap.size w w' := by
  have HT := hide ht
  have HBX := hide hb
  have HCUT0 := hide (cut_bytes v0 b 300 w w.heap.size hv0 (by omega) (by omega))
  obtain ⟨A0, c0, rfl, h01, h02, h03⟩ := hv0.open_
  have HBB := hide (show Bytes (b.take (300 : Int).toNat) from fun x hx => hb0 x (List.mem_of_mem_take hx))
  have hlen : (b.take (300 : Int).toNat).length ≤ 300 := by rw [List.length_take]; exact Nat.min_le_left _ _
  obtain ⟨B, HB0⟩ : ∃ c, Hid (b.take (300 : Int).toNat = c) := ⟨_, hide rfl⟩
  rw [HB0.out] at HCUT0 HBB hlen
  obtain ⟨A, c, rfl, h1, h2, h3⟩ := hv.open_
  unfold maxLen at h2 h02
  obtain ⟨n, HN⟩ : ∃ n, Hid (l.length = n) := ⟨_, hide rfl⟩
  rw [HN.out] at h1
  have HVV := hide (fun (w' : World) (hb : Below w.heap.size w w') => (hv.below hb (Nat.le_refl _)).open_)
  rw [HN.out]
  clear hv hb h3 ht hv0 hb0 h03 HB0
  go_enter Tryd.func4, Tryd.ntmps4
  go_upto_block 0 with (refine HCUT0.out.mono ?_; rintro e w' ⟨v1, rfl, hv1, rfl⟩; have HV1 := hide hv1; clear hv1)
  go_cut [5, 6] from 12 to 29 (fun v5 v6 wx => OwnRows wx w.heap.size v5 (cutR 10 100 l) ∧ Below w.heap.size w wx)
  case first =>
    go_wp2_with fail
    go_loopw [5, 6] (fun v5 v6 wr => ∃ i : Nat, i ≤ n ∧ i ≤ 10 ∧ v6 = .int .i64 i ∧ OwnRows wr w.heap.size v5 (cutR i 100 l) ∧ Below w.heap.size w wr) (fun _ v6 _ => 10 - (intOf v6).toNat)
    case atStart => exact ⟨0, by omega, by omega, rfl, OwnRows.nil_ _ _, Below.refl _ _⟩
    case round =>
      obtain ⟨i, hi, hiK, rfl, ho, hbel⟩ := hrel
      have HO := hide ho
      have HB := hide hbel
      have hwz := hbel.size
      clear ho hbel
      by_cases hit : i < n
      · have i0 : (0 : Int) ≤ (i : Int) := by omega
        have i1 : (i : Int) < (n : Int) := by omega
        by_cases hiKK : i < 10
        · have i2 : (i : Int) < 10 := by omega
          obtain ⟨A', c', e', _, _, h3⟩ := HVV.out wr HB.out
          injection e' with e1 e2 e3
          rw [← e1] at h3
          clear e1 e2 e3
          obtain ⟨b, o, rfl, hbb, hc⟩ := h3 (by rw [HN.out]; omega)
          have hil : i < l.length := by rw [HN.out]; exact hit
          obtain ⟨u, hu, hbu⟩ := hc i hil
          have HCS := hide (cutR_succ 100 l i hil)
          have HCUT := hide (cut_bytes u l[i] 100 wr w.heap.size hbu (by omega) (by omega))
          obtain ⟨r, HR⟩ : ∃ r, Hid (l[i].take (100 : Int).toNat = r) := ⟨_, hide rfl⟩
          have HCL := hide (show (cutR i 100 l).length ≤ 1000000 by rw [cutR_len]; omega)
          rw [HR.out] at HCUT
          rw [show l[i].take 100 = r from HR.out] at HCS
          obtain ⟨Q, HQ⟩ : ∃ q, Hid (cutR i 100 l = q) := ⟨_, hide rfl⟩
          rw [HQ.out] at HCS HO HCL
          clear hc hbu h3 HR HQ
          go_wp2_with fail
          refine HCUT.out.mono ?_
          rintro e w' ⟨v36, rfl, hv36, rfl⟩
          have HV36 := hide (hv36)
          obtain ⟨A1, c1, rfl, _, _, _⟩ := hv36.open_
          clear hv36
          go_wp2_with (at_builtin; go_must (refine wpList_append_row rfl _ _ rfl w.heap.size _ Q rfl HO.out hwz _ r (.inl HV36.out) rfl HCL.out ?_); intro v38 w2 ho38 hb38 hk38; rw [← HCS.out] at ho38; have HO38 := hide ho38; have HB38 := hide (HB.out.trans hb38); clear ho38 hb38 hk38)
          go_roundw
          case measure => simp [intOf]; omega
          case rel => exact ⟨i + 1, by omega, by omega, by go_num, HO38.out, HB38.out⟩
        · have i2 : ¬ (i : Int) < 10 := by omega
          have e8 : i = 10 := by omega
          subst e8
          go_wp2_with fail
          go_meet
          exact ⟨HO.out, HB.out⟩
      · have i1 : ¬ (i : Int) < (n : Int) := by omega
        have HE := hide (show cutR i 100 l = cutR 10 100 l by
          unfold cutR
          rw [List.take_of_length_le (by rw [HN.out]; omega), List.take_of_length_le (by rw [HN.out]; omega)])
        rw [HE.out] at HO
        go_wp2_with fail
        go_meet
        exact ⟨HO.out, HB.out⟩
  case rest =>
    obtain ⟨ho, hbel⟩ := hcut
    have hz0 := hbel.size
    have HRB := hide (cutR_bytes 10 100 HBX.out)
    have HRL := hide (fun x hx => Nat.le_trans (cutR_row 10 100 l x hx) (show 100 ≤ 1000000 by omega))
    have hk6 : (cutR 10 100 l).length ≤ 10 := by rw [cutR_len]; omega
    obtain ⟨R, HR⟩ : ∃ r, Hid (cutR 10 100 l = r) := ⟨_, hide rfl⟩
    rw [HR.out] at ho HRB HRL hk6
    have HB := hide hbel
    have HVR := hide (fun (w' : World) (hb : Below wc.heap.size wc w') => (ho.reads hz0).below hb (Nat.le_refl _))
    obtain ⟨A5, c5, rfl, g1, g2, _⟩ := (ho.reads hz0).open_
    unfold maxLen at g2
    clear ho hbel HR HVV HBX HCUT0
    obtain ⟨A1, c1, rfl, k1, k2, _⟩ := HV1.out.open_
    unfold maxLen at k2
    obtain ⟨N, HNN⟩ : ∃ n, Hid (B.length = n) := ⟨_, hide rfl⟩
    have HVB := hide (fun (w' : World) (hb : Below w.heap.size w w') => HV1.out.below hb (Nat.le_refl _))
    rw [HNN.out] at hlen k1 HVB
    rw [HNN.out]
    clear HV1
    have HLEND := hide (Lend_any _ B wc ((HVB.out wc HB.out).more hz0) (by rw [HNN.out]; omega))
    rw [HNN.out] at HLEND
    have HT' := hide (fun (w' : World) (hb : Below w.heap.size w w') => (HT.out.below hb (Nat.le_refl _)).more hb.size)
    go_wp2_with fail
    refine HLEND.out.mono ?_
    rintro e w1 ⟨g, rfl, hg, hbk, hb1⟩
    have hz1 := hb1.size
    have hgl := hbk.lt
    have HX1 := hide (show Bs w1 w1.heap.size (.slice (some ⟨g, 0, none⟩) N (N + 3)) B by
      have h3 : (B ++ [85, 85, 85]).length = N + 3 := by rw [List.length_append, HNN.out]; rfl
      have h := (Own8.of_blk (base := g) hbk (Nat.le_refl _) (by rw [h3]; unfold maxLen; omega)).reads
      rw [h3] at h
      have h := h.take N (by rw [h3]; omega)
      rw [← HNN.out, List.take_left' rfl, HNN.out] at h
      exact h)
    have HBK := hide hbk
    have HB1 := hide (HB.out.trans (hb1.mono hz0))
    have HBc1 := hide hb1
    clear hbk hb1 HLEND
    have HNET := hide (Net_any _ B w1 HX1.out HBB.out (by rw [HNN.out]; omega) (HT'.out w1 HB1.out))
    have HREF := hide (fun (w' : World) (hb : Below w.heap.size w w') => Net_ref _ B w' ((HVB.out w' hb).more hb.size) HBB.out (by rw [HNN.out]; omega))
    have HNF := hide (netF_pos B)
    obtain ⟨NF, HNF'⟩ : ∃ x, Hid (netF B = x) := ⟨_, hide rfl⟩
    rw [HNF'.out] at HNET HNF
    simp only [HNF'.out] at HREF
    obtain ⟨M, HM⟩ : ∃ x, Hid (netsF R = x) := ⟨_, hide rfl⟩
    have D1 := hide (fun (w' : World) (hb : Below wc.heap.size wc w') => Nets_any _ R w' ((HVR.out w' hb).more hb.size) HRB.out HRL.out (by omega) (HT'.out w' (HB.out.trans (hb.mono hz0))))
    have D2 := hide (fun (w' : World) (hb : Below wc.heap.size wc w') => Nets_ref _ R w' ((HVR.out w' hb).more hb.size) HRB.out HRL.out (by omega))
    simp only [HM.out] at D1 D2
    clear HX1 HNF' HM
    go_wp2_with fail
    refine HNET.out.mono ?_
    rintro e w2 ⟨v8, rfl, ho8, hb2⟩
    have HO8 := hide ho8
    have HB2 := hide (HB1.out.trans (hb2.mono (by omega)))
    have HB12 := hide hb2
    have hz2 := hb2.size
    obtain ⟨A8, c8, rfl⟩ := ho8.shape
    clear ho8 hb2 HNET
    go_wp2_with fail
    refine (HREF.out w2 HB2.out).mono ?_
    rintro e w3 ⟨v36, rfl, ho36, hb3⟩
    have HB13 := hide (HB12.out.trans (hb3.mono (by omega)))
    have HB3 := hide (HB2.out.trans (hb3.mono (by omega)))
    have HO36 := hide ho36.reads
    have HO83 := hide (HO8.out.keptB hb3)
    have hz3 := hb3.size
    obtain ⟨A36, c36, rfl⟩ := ho36.shape
    clear ho36 hb3 HO8 HREF
    go_wp2_with fail
    refine (same_bytes _ _ NF NF w3 w3.heap.size HO83.out.reads HO36.out (Nat.le_refl _)).mono ?_
    rintro e w4 ⟨rfl, hb4⟩
    rw [decide_eq_true rfl]
    have HB14 := hide (HB13.out.trans (hb4.mono (by omega)))
    have HBc4 := hide (HBc1.out.trans (HB14.out.mono (by omega)))
    have HO84 := hide (HO83.out.keptB hb4)
    have hz4 := hb4.size
    clear hb4 HO83 HO36
    go_wp2_with fail
    refine (D1.out w4 HBc4.out).mono ?_
    rintro e w5 ⟨v40, rfl, ho40, hb5⟩
    have HB15 := hide (HB14.out.trans (hb5.mono (by omega)))
    have HBc5 := hide (HBc4.out.trans (hb5.mono (by omega)))
    have HO85 := hide (HO84.out.keptB hb5)
    have HO40 := hide ho40
    have hz5 := hb5.size
    obtain ⟨A40, c40, rfl⟩ := ho40.shape
    clear hb5 ho40 HO84
    go_wp2_with fail
    refine (D2.out w5 HBc5.out).mono ?_
    rintro e w6 ⟨v42, rfl, ho42, hb6⟩
    have HB16 := hide (HB15.out.trans (hb6.mono (by omega)))
    have HO86 := hide (HO85.out.keptB hb6)
    have HO406 := hide (HO40.out.keptB hb6)
    have HO42 := hide ho42
    have hz6 := hb6.size
    obtain ⟨A42, c42, rfl⟩ := ho42.shape
    clear hb6 ho42 HO85 HO40
    go_wp2_with fail
    refine (same_bytes _ _ M M w6 w6.heap.size HO406.out.reads HO42.out.reads (Nat.le_refl _)).mono ?_
    rintro e w7 ⟨rfl, hb7⟩
    rw [decide_eq_true rfl]
    have HB17 := hide (HB16.out.trans (hb7.mono (by omega)))
    have HO87 := hide (HO86.out.keptB hb7)
    have hz7 := hb7.size
    clear hb7 HO86 HO406 HO42
    obtain ⟨g8, hg8, hge8, hcall⟩ := SpoilB_any _ NF _ w7 HO87.out HNF.out
    have HCALL := hide hcall
    clear hcall
    go_wp2_with fail
    refine HCALL.out.mono ?_
    rintro e w8 ⟨⟨r, rfl⟩, hgr⟩
    have HB18 := hide (HB17.out.grown hgr (by omega) (fun k hk => by injection hk with hk; omega))
    have hz8 := hgr.size
    have HB8 := hide (HB1.out.trans (HB18.out.mono (by omega)))
    have HBK8 := hide (HBK.out.below HB18.out hgl)
    clear hgr HCALL HO87 hg8
    have HINT := hide (Intact_any g _ B w8 HBK8.out ((HVB.out w8 HB8.out).more (by omega)) (by rw [HNN.out]; omega))
    rw [HNN.out] at HINT
    go_wp2_with fail
    refine HINT.out.mono ?_
    rintro e w9 ⟨rfl, hb9⟩
    have HB9 := hide (HB8.out.trans (hb9.mono (by omega)))
    clear hb9 HINT
    go_wp2_with fail
    refine (wakes01 w9 (HT'.out _ HB9.out)).mono ?_
    rintro e w20 ⟨rfl, hb20⟩
    have HB20 := hide (HB9.out.trans (hb20.mono HB9.out.size))
    clear hb20
    go_wp2_with fail
    go_ret
    exact ⟨rfl, HB20.out⟩

set_option maxRecDepth 100000 in
theorem lifted (os : Os) (started : os.Started) (H : Type) (enc : TypeId × Value → H) :
    ReturnsInHanded {} Tryd.checked os 4 .any (fun w args => (Rows.codeNetsSpec.pre enc Tryd.prog Tryd.f4 [] false w args ∧ laidMetH Tryd.prog laidD w) ∧ sizedMet enc Tryd.prog Tryd.f4 (OpenSpec.ofChange Rows.codeNetsSpec) false w args)
      (Rows.codeNetsSpec.post enc Tryd.prog Tryd.f4 false true false false) := by
  refine returnsInHanded_of_change_and (C := Tryd.checked) (X := fun w _ => laidMetH Tryd.prog laidD w) (fun _ _ _ hh h => h.of_heap hh) own started (by kernel_rfl) Tryd.func4
    (ChangeSpec.witness_shaped (enc := enc) (C := Tryd.checked) (os := os) (X := fun w _ => laidMetH Tryd.prog laidD w) false (World.doorLaid Tryd.prog doorSteps os) #[.slice none 0 0, .slice none 0 0] 8 rfl (World.shaped_of_RefB (by kernel_rfl) (by kernel_rfl)) (by kernel_rfl) (by kernel_rfl) (by kernel_rfl) (door_met os _)) ?_
  intro W base args ds gs before hval0 hW _ _ hL _
  have hT := tab_of hL
  have hval : ∀ (j : Nat) t v, Tryd.f4.params[j]? = some t → args[j]? = some v → Value.okWide Tryd.prog W .any base t v := hval0
  have hW' := hW
  obtain ⟨p, q, hA0, hV, rfl, hfz, hnd⟩ := hW
  have hA : DataW.TrodAll enc Tryd.prog W 0 (fun _ => true) true Tryd.f4.params.toList args.toList ds p := hA0
  rw [Tryd.params4] at hA hval
  obtain ⟨v0, vs0, d0, ds0, p0, q0, hargs, rfl, rfl, h0, r0⟩ := trodAll_cons hA
  obtain ⟨v1, vs1, d1, ds1, p1, q1, rfl, rfl, rfl, h1, r1⟩ := trodAll_cons r0
  obtain ⟨rfl, rfl, rfl⟩ := trodAll_nil r1
  obtain rfl : args = #[v0, v1] := by cases args; simp_all
  obtain ⟨rfl, rfl⟩ := trodVars_none hV
  obtain ⟨s0, len0, cap0, rfl⟩ := okWide_slice Tryd.underlying23 (hval 0 23 v0 rfl rfl)
  have k0 := h0
  have lt0 : ∀ x ∈ p0, x.block < W.heap.size := by obtain ⟨m, hm⟩ := k0; exact DataW.trod_lt m _ _ _ hm
  obtain ⟨z0, w0, b0⟩ := read_bytes h0
  obtain ⟨s1, len1, cap1, rfl⟩ := okWide_slice Tryd.underlying22 (hval 1 22 v1 rfl rfl)
  have k1 := h1
  have lt1 : ∀ x ∈ p1, x.block < W.heap.size := by obtain ⟨m, hm⟩ := k1; exact DataW.trod_lt m _ _ _ hm
  obtain ⟨z1, w1, b1⟩ := read_brows h1
  clear hA0 hval0
  refine (walk W hT _ z0 w0 b0 _ z1 w1 b1).mono fun e W' ⟨he, bel⟩ => ?_
  subst he
  exact ⟨_, rfl, _, _, _, [], _, [], hW', trodAll_mk1 (shut_bool Tryd.underlying4 _), (trodAll_cons_mk (Below.trod laidOut (by kernel_rfl) (of_decide_eq_true (by kernel_rfl)) k0 bel lt0) (trodAll_cons_mk (Below.trod laidOut (by kernel_rfl) (of_decide_eq_true (by kernel_rfl)) k1 bel lt1) trodAll_mk0)), rfl, bel.frame _, fun h => by cases h⟩

theorem over : Rows.codeNetsRow.holds Tryd.pinned (OpenSpec.ofChange Rows.codeNetsSpec) :=
  OpenClaim.holds_of_wide 4 Tryd.f4 rfl rfl rfl rfl rfl rfl rfl ⟨rfl, rfl, rfl, rfl, rfl⟩ rfl rfl rfl rfl rfl (by kernel_rfl) Tryd.func4 (by kernel_rfl)
    (of_decide_eq_true (by kernel_rfl)) (by unfold Func.isWrapper; rw [if_neg (of_decide_eq_false (by kernel_rfl))]; exact ⟨rfl, rfl⟩)
    (fun os started H enc _ => lifted os started H enc)

theorem proved : Rows.CodeNetsCardSaid :=
  Claim7.holds_tied_plain_at .later [] Rows.codeNetsCard.laidKinds true Rows.codeNetsCard.stood.harness false
    over (fun _ h => by cases h) (by kernel_rfl) (fun _ h => by cases h) codeNets_row_tie rfl ⟨rfl, rfl⟩ (by kernel_rfl) rfl
    (fun f fn hf hfn => by
      obtain rfl : f = 4 := Option.some.inj ((show Tryd.prog.funcNamed "aumbry/aumbrylaw01.CodeNets" = some 4 by kernel_rfl).symm.trans hf) |>.symm
      obtain rfl : fn = Tryd.f4 := (Option.some.inj (Tryd.func4.symm.trans hfn)).symm
      exact ⟨by kernel_rfl, fun j t ht => by
        have ht' : Tryd.f4.params[j]? = some t := ht
        rw [Tryd.params4] at ht'
        have hm : t ∈ [23, 22] := by simpa using Array.mem_of_getElem? ht'
        have hall : ([23, 22].all fun u => !Tryd.prog.wantsStandIn u) = true := by kernel_rfl
        exact (show Tryd.prog.wantsStandIn t = false by simpa using List.all_eq_true.1 hall t hm)⟩)
    (by kernel_rfl)
end Go.Proofs.YtijhcdmjiclnnaaDoor.LawCodeNets
