/- P1.3: written and read again bytes are themselves; a letter turned makes other bytes, or none. Condition: the library's tables are laid (tied to the program's text). -/
import Derived.Test.YtijhcdmjiclnnaaDoorFrameBytes
import Derived.Test.YtijhcdmjiclnnaaDoorTied
import Derived.Test.YtijhcdmjiclnnaaDoorWakes01
import Derived.Test.YtijhcdmjiclnnaaDoorBy32
import Derived.Test.YtijhcdmjiclnnaaDoorWithin
namespace Go.Proofs.YtijhcdmjiclnnaaDoor.LawCodeLetters
open Go Go.RowKit Go.ChangeShapes Go.WideShapes Go.ChangeAt Go.Proofs.YtijhcdmjiclnnaaDoor
set_option linter.unusedVariables false

theorem row_set {w : World} {base g cap k : Nat} {cur xs : List Int} {f : Nat × Nat} {c : Int} (hg : base ≤ g) (hB : BlkF w g 5 (u8s cur) f) (hf : f.2 = 0 ∨ cap ≤ f.1) (hl : xs.length ≤ cap) (hm : cap ≤ maxLen) (hc : cur.length = cap) (hb : Bytes cur) (ht : cur.take xs.length = xs)
    (h0 : 0 ≤ c ∧ c < 256) : RowB (w.setCell ⟨g, k, none⟩ (.int .u8 c)) base (.slice (some ⟨g, 0, none⟩) xs.length cap) (xs.set k c) :=
  .inr ⟨g, cap, cur.set k c, f, by rw [List.length_set], hg, by rw [← u8s_set]; exact hB.set_ k _, hf, by rw [List.length_set]; exact hl, hm, by rw [List.length_set]; exact hc, hb.set_ k h0.1 h0.2, by rw [List.length_set, List.take_set, ht]⟩

theorem rowB_pos {w : World} {base n : Nat} {v : Value} {xs : List Int} (h : RowB w base v xs) (hn : xs.length = n) (hp : 0 < n) : ∃ (g cap : Nat) (cur : List Int) (f : Nat × Nat), v = .slice (some ⟨g, 0, none⟩) n cap ∧ base ≤ g ∧ BlkF w g 5 (u8s cur) f ∧ (f.2 = 0 ∨ cap ≤ f.1) ∧
    n ≤ cap ∧ cap ≤ maxLen ∧ cur.length = cap ∧ Bytes cur ∧ cur.take n = xs := by
  subst hn
  rcases h with ⟨_, rfl⟩ | h
  · simp at hp
  · exact h

set_option maxHeartbeats 2000000 in
theorem walk (w : World) (ht : Tab w w.heap.size) (v : Value) (b : List Int) (hv : Bs w w.heap.size v b) (hb : Bytes b) (at_ : Int) (hat : In64 at_) (cc : Int) (hcc : 0 ≤ cc ∧ cc < 256) :
    Calls Tryd.prog 10 #[v, .int .i64 at_, .int .u8 cc] w fun e w' => e = .returned (.bool true) ∧ Below w.heap.size w w' := by
  have HT := hide ht
  have HCUT := hide (cut_bytes v b 100 w w.heap.size hv (by omega) (by omega))
  obtain ⟨A, cp, rfl, h1, h2, h3⟩ := hv.open_
  have HBC := hide (show Bytes (b.take (100 : Int).toNat) from fun x hx => hb x (List.mem_of_mem_take hx))
  have hlen : (b.take (100 : Int).toNat).length ≤ 100 := by rw [List.length_take]; exact Nat.min_le_left _ _
  obtain ⟨c, HC⟩ : ∃ c, Hid (b.take (100 : Int).toNat = c) := ⟨_, hide rfl⟩
  rw [HC.out] at HCUT HBC hlen
  obtain ⟨ha1, ha2⟩ := hat
  obtain ⟨hc1, hc2⟩ := hcc
  unfold maxLen at h2
  clear ht hv hb h3 HC
  have HLL := hide (b32F_len c)
  have HLB := hide (b32F_bytes c)
  have HRT := hide (bytes32_b32 c HBC.out)
  have HJ := hide (fun (y : List Int) (h : bytes32F y = some c) => bytes32_some h)
  have HB32 := hide (fun v w h => Base32_any v c w h HBC.out (by omega))
  obtain ⟨LT, HLT⟩ : ∃ l, Hid (b32F c = l) := ⟨_, hide rfl⟩
  simp only [HLT.out] at HLL HLB HRT HJ HB32
  have HST := hide (strB_of HLB.out)
  obtain ⟨S, HS⟩ : ∃ s, Hid (strOfNums LT = s) := ⟨_, hide rfl⟩
  simp only [HS.out] at HST HB32
  obtain ⟨N, HN⟩ : ∃ n, Hid (c.length = n) := ⟨_, hide rfl⟩
  rw [HN.out] at hlen HLL
  have hSL : S.size = LT.length := by rw [← strB_len, HST.out]
  obtain ⟨L, HL⟩ : ∃ n, Hid (LT.length = n) := ⟨_, hide rfl⟩
  rw [HL.out] at HLL hSL
  have hL2 : L = (8 * N + 4) / 5 := HLL.out
  have hL : L ≤ 161 := by omega
  have hL3 : 5 * L ≤ 8 * N + 4 := by omega
  have hL4 : 8 * N + 4 < 5 * L + 5 := by omega
  clear hL2
  have hsz1 : S.size ≤ L := by omega
  have hsz2 : L ≤ S.size := by omega
  have HSZ := hide hSL
  clear hSL HLL
  go_enter Tryd.func10, Tryd.ntmps10
  go_wp2_with fail
  refine HCUT.out.mono ?_
  rintro e w' ⟨v1, rfl, hv1, rfl⟩
  have HV1 := hide hv1
  obtain ⟨A1, c1, rfl, h11, h12, h13⟩ := hv1.open_
  rw [HN.out] at HV1 h11
  rw [HN.out]
  unfold maxLen at h12
  clear hv1 h13
  go_wp2_with fail
  refine (HB32.out _ w HV1.out).mono ?_
  rintro e w1 ⟨rfl, hb1⟩
  have HB1 := hide hb1
  have hz1 := hb1.size
  have HBY := hide (Bytes32_any S w1 (by omega))
  rw [HST.out] at HBY
  clear hb1
  go_wp2_with fail
  refine HBY.out.mono ?_
  rintro e w2 (⟨v19, y, hy, rfl, ho19, hb2⟩ | ⟨hy, _⟩)
  case inr => rw [HRT.out] at hy; cases hy
  rw [HRT.out] at hy
  injection hy with hy
  subst hy
  have HO19 := hide ho19
  have HB2 := hide (HB1.out.trans (hb2.mono hz1))
  have hz2 := hb2.size
  have HV2 := hide (HV1.out.below HB2.out (Nat.le_refl _))
  clear ho19 hb2 HBY
  go_wp2_with fail
  refine (same_bytes _ _ c c w2 w2.heap.size HO19.out.reads (HV2.out.more (by omega)) (Nat.le_refl _)).mono ?_
  rintro e w3 ⟨rfl, hb3⟩
  rw [decide_eq_true rfl]
  have HB3 := hide (HB2.out.trans (hb3.mono (by omega)))
  have hz3 := hb3.size
  clear hb3
  have hq : ((8 * (N : Int) + 4)).tdiv 5 = (L : Int) := by rw [Int.tdiv_eq_ediv_of_nonneg (by omega)]; omega
  have hq2 : (8 * (N : Int) + 4) / 5 = (L : Int) := by omega
  have hq3 : ((S.size : Int) != (L : Int)) = false := by simp; omega
  by_cases hL0 : L = 0
  · have hs0 : ((S.size : Int) == 0) = true := beq_iff_eq.2 (by omega)
    go_wp2_with fail
    refine (wakes01 w3 ((HT.out.below HB3.out (Nat.le_refl _)).more (by omega))).mono ?_
    rintro e w4 ⟨rfl, hb4⟩
    have HB4 := hide (HB3.out.trans (hb4.mono (by omega)))
    clear hb4
    go_wp2_with fail
    go_ret
    exact ⟨rfl, HB4.out⟩
  have hs0 : ((S.size : Int) == 0) = false := beq_eq_false_iff_ne.2 (by omega)
  clear hq hq2 hq3
  go_wp2_with (refine wpList_to_bytes rfl _ rfl S rfl (by unfold maxLen; omega) ?_; intro v45 w4 ho45 hb45; rw [HST.out] at ho45; obtain ⟨g, cap, cur, f, rfl, hg, hB, hf, hnc, hcm, hcl, hcb, htk⟩ := rowB_pos ho45 HL.out (by omega); have HBK := hide hB; have HCL := hide hcl; have HCB := hide hcb; have HTK := hide htk; have HB4 := hide (HB3.out.trans (hb45.mono (by omega))); have hz4 := hb45.size; have HBL := hide hb45; clear ho45 hb45 hB hcl hcb htk)
  refine (within_any at_ L _ ha1 ha2 (by omega)).mono ?_
  rintro e w' ⟨rfl, rfl⟩
  obtain ⟨k, ek, hk⟩ : ∃ a : Nat, within at_ L = (a : Int) ∧ a < L := by
    unfold within; rw [if_neg (by omega)]
    have h1 := Int.emod_nonneg at_ (show (L : Int) ≠ 0 by omega)
    have h2 := Int.emod_lt_of_pos at_ (show (0 : Int) < L by omega)
    exact ⟨(at_ % L).toNat, by omega, by omega⟩
  rw [ek]
  clear ek
  have hkc : k < (u8s cur).length := by rw [u8s_len, HCL.out]; omega
  have cc1 := (HBK.out.cell k).trans (List.getElem?_eq_getElem hkc)
  have ff1 := HBK.out.frozen k (by rcases hf with h | h; exact .inl h; exact .inr (by omega))
  obtain ⟨old, HOLD⟩ : ∃ o, Hid ((u8s cur)[k]'hkc = o) := ⟨_, hide rfl⟩
  rw [HOLD.out] at cc1
  have k0 : (0 : Int) ≤ (k : Int) := by omega
  have k1 : (k : Int) < (L : Int) := by omega
  have HLS := hide (show (LT.set k cc).length = L by rw [List.length_set, HL.out])
  have HNB := hide (show Bytes (LT.set k cc) from HLB.out.set_ k hc1 hc2)
  have HRS := hide (show RowB (w4.setCell ⟨g, k, none⟩ (.int .u8 cc)) w3.heap.size (.slice (some ⟨g, 0, none⟩) L cap) (LT.set k cc) by
    have := row_set (k := k) (xs := LT) hg HBK.out hf (by rw [HL.out]; exact hnc) hcm HCL.out HCB.out (by rw [HL.out]; exact HTK.out) ⟨hc1, hc2⟩
    rw [HL.out] at this
    exact this)
  have HBS := hide (show Below w.heap.size w (w4.setCell ⟨g, k, none⟩ (.int .u8 cc)) from HB4.out.setCell (p := ⟨g, k, none⟩) (show w.heap.size ≤ g by omega) _)
  have HBS3 := hide (show Below w3.heap.size w3 (w4.setCell ⟨g, k, none⟩ (.int .u8 cc)) from HBL.out.setCell (p := ⟨g, k, none⟩) hg _)
  obtain ⟨X, HX⟩ : ∃ x, Hid (LT.set k cc = x) := ⟨_, hide rfl⟩
  have HXL := hide (show ∀ y, y = X → b32F c = y → LT = X from fun y h1 h2 => by rw [← h1, ← h2, HLT.out])
  rw [HX.out] at HLS HNB HRS
  clear HX hkc HOLD
  have HTB := hide (strB_of HNB.out)
  have HJX := hide (fun (y : List Int) (h : bytes32F X = some y) => bytes32_some h)
  obtain ⟨t, HTT⟩ : ∃ t, Hid (strOfNums X = t) := ⟨_, hide rfl⟩
  rw [HTT.out] at HTB
  have htl : t.size = L := by rw [← strB_len, HTB.out, HLS.out]
  have hts1 : t.size ≤ L := by omega
  have HEQ := hide (show LT = X → t = S from fun h => by rw [← HTT.out, ← h, HS.out])
  clear htl
  go_wp2_with (first
    | (refine wpList_to_string rfl _ rfl _ _ X rfl HRS.out.reads ?_; rw [HTT.out]))
  have HT2 := hide (Bytes32_any t (w4.setCell ⟨g, k, none⟩ (.int .u8 cc)) (by omega))
  rw [HTB.out] at HT2
  have hzs := HBS.out.size
  have HVS := hide (HV1.out.below HBS.out (Nat.le_refl _))
  obtain ⟨ws, HWS⟩ : ∃ ws, Hid (w4.setCell ⟨g, k, none⟩ (.int .u8 cc) = ws) := ⟨_, hide rfl⟩
  rw [HWS.out] at HT2 HRS HBS HVS hzs
  rw [HWS.out]
  clear HWS HBS3 HBL HBK HCL HCB HTK cc1 ff1 hf
  refine HT2.out.mono ?_
  rintro e w5 (⟨v56, y, hy, rfl, ho56, hb5⟩ | ⟨hy, rfl, hb5⟩)
  · have HO5 := hide ho56
    have HB5 := hide (HBS.out.trans (hb5.mono hzs))
    have hz5 := hb5.size
    have HRS5 := hide (HRS.out.keptB hb5)
    have HV5 := hide (HVS.out.below hb5 (by omega))
    have hyx := HJX.out y hy
    clear ho56 hb5 hy
    by_cases hts : t = S
    · have htt : (t.toList == S.toList) = true := by rw [hts]; simp
      go_wp2_with (refine wpList_to_string rfl _ rfl _ _ X rfl HRS5.out.reads ?_; rw [HTT.out])
      refine (wakes01 w5 ((HT.out.below HB5.out (Nat.le_refl _)).more (by omega))).mono ?_
      rintro e w7 ⟨rfl, hb7⟩
      have HB7 := hide (HB5.out.trans (hb7.mono (by omega)))
      clear hb7
      go_wp2_with fail
      go_ret
      exact ⟨rfl, HB7.out⟩
    · have htt : (t.toList == S.toList) = false := str_ne hts
      have hyc : decide (y = c) = false := decide_eq_false fun e => hts (HEQ.out (HXL.out _ rfl (by rw [← e]; exact hyx)))
      have HYC := hide hyc
      clear hyx hyc
      go_wp2_with (refine wpList_to_string rfl _ rfl _ _ X rfl HRS5.out.reads ?_; rw [HTT.out])
      refine (same_bytes _ _ y c w5 w5.heap.size HO5.out.reads (HV5.out.more (by omega)) (Nat.le_refl _)).mono ?_
      rintro e w6 ⟨rfl, hb6⟩
      rw [HYC.out]
      have HB6 := hide (HB5.out.trans (hb6.mono (by omega)))
      have hz6 := hb6.size
      clear hb6
      go_wp2_with fail
      refine (wakes01 w6 ((HT.out.below HB6.out (Nat.le_refl _)).more (by omega))).mono ?_
      rintro e w7 ⟨rfl, hb7⟩
      have HB7 := hide (HB6.out.trans (hb7.mono (by omega)))
      clear hb7
      go_wp2_with fail
      go_ret
      exact ⟨rfl, HB7.out⟩
  · have HB5 := hide (HBS.out.trans (hb5.mono hzs))
    have hz5 := hb5.size
    have HRS5 := hide (HRS.out.keptB hb5)
    clear hb5 hy
    by_cases hts : t = S
    · have htt : (t.toList == S.toList) = true := by rw [hts]; simp
      go_wp2_with (refine wpList_to_string rfl _ rfl _ _ X rfl HRS5.out.reads ?_; rw [HTT.out])
      refine (wakes01 w5 ((HT.out.below HB5.out (Nat.le_refl _)).more (by omega))).mono ?_
      rintro e w7 ⟨rfl, hb7⟩
      have HB7 := hide (HB5.out.trans (hb7.mono (by omega)))
      clear hb7
      go_wp2_with fail
      go_ret
      exact ⟨rfl, HB7.out⟩
    · have htt : (t.toList == S.toList) = false := str_ne hts
      go_wp2_with (refine wpList_to_string rfl _ rfl _ _ X rfl HRS5.out.reads ?_; rw [HTT.out])
      refine (wakes01 w5 ((HT.out.below HB5.out (Nat.le_refl _)).more (by omega))).mono ?_
      rintro e w7 ⟨rfl, hb7⟩
      have HB7 := hide (HB5.out.trans (hb7.mono (by omega)))
      clear hb7
      go_wp2_with fail
      go_ret
      exact ⟨rfl, HB7.out⟩

set_option maxRecDepth 100000 in
theorem lifted (os : Os) (started : os.Started) (H : Type) (enc : TypeId × Value → H) :
    ReturnsInHanded {} Tryd.checked os 10 .any (fun w args => (Rows.codeLettersSpec.pre enc Tryd.prog Tryd.f10 [] false w args ∧ laidMetH Tryd.prog laidD w) ∧ sizedMet enc Tryd.prog Tryd.f10 (OpenSpec.ofChange Rows.codeLettersSpec) false w args)
      (Rows.codeLettersSpec.post enc Tryd.prog Tryd.f10 false true false false) := by
  refine returnsInHanded_of_change_and (C := Tryd.checked) (X := fun w _ => laidMetH Tryd.prog laidD w) (fun _ _ _ hh h => h.of_heap hh) own started (by kernel_rfl) Tryd.func10
    (ChangeSpec.witness_shaped (enc := enc) (C := Tryd.checked) (os := os) (X := fun w _ => laidMetH Tryd.prog laidD w) false (World.doorLaid Tryd.prog doorSteps os) #[.slice none 0 0, .int .i64 0, .int .u8 0] 8 rfl (World.shaped_of_RefB (by kernel_rfl) (by kernel_rfl)) (by kernel_rfl) (by kernel_rfl) (by kernel_rfl) (door_met os _)) ?_
  intro W base args ds gs before hval0 hW _ _ hL _
  have hT := tab_of hL
  have hval : ∀ (j : Nat) t v, Tryd.f10.params[j]? = some t → args[j]? = some v → Value.okWide Tryd.prog W .any base t v := hval0
  have hW' := hW
  obtain ⟨p, q, hA0, hV, rfl, hfz, hnd⟩ := hW
  have hA : DataW.TrodAll enc Tryd.prog W 0 (fun _ => true) true Tryd.f10.params.toList args.toList ds p := hA0
  rw [Tryd.params10] at hA hval
  obtain ⟨v0, vs0, d0, ds0, p0, q0, hargs, rfl, rfl, h0, r0⟩ := trodAll_cons hA
  obtain ⟨v1, vs1, d1, ds1, p1, q1, rfl, rfl, rfl, h1, r1⟩ := trodAll_cons r0
  obtain ⟨v2, vs2, d2, ds2, p2, q2, rfl, rfl, rfl, h2, r2⟩ := trodAll_cons r1
  obtain ⟨rfl, rfl, rfl⟩ := trodAll_nil r2
  obtain rfl : args = #[v0, v1, v2] := by cases args; simp_all
  obtain ⟨rfl, rfl⟩ := trodVars_none hV
  obtain ⟨s0, len0, cap0, rfl⟩ := okWide_slice Tryd.underlying23 (hval 0 23 v0 rfl rfl)
  have k0 := h0
  have lt0 : ∀ x ∈ p0, x.block < W.heap.size := by obtain ⟨m, hm⟩ := k0; exact DataW.trod_lt m _ _ _ hm
  obtain ⟨z0, w0, b0⟩ := read_bytes h0
  obtain ⟨a1, rfl, rfl, rfl, wf1⟩ := open_int Tryd.underlying3 (hval 1 3 v1 rfl rfl) h1
  obtain ⟨a2, rfl, rfl, rfl, wf2⟩ := open_int Tryd.underlying5 (hval 2 5 v2 rfl rfl) h2
  clear hA0 hval0
  refine (walk W hT _ z0 w0 b0 a1 (in64_wf wf1) a2 (u8_wf wf2)).mono fun e W' ⟨he, bel⟩ => ?_
  subst he
  exact ⟨_, rfl, _, _, _, [], _, [], hW', trodAll_mk1 (shut_bool Tryd.underlying4 _), (trodAll_cons_mk (Below.trod laidOut (by kernel_rfl) (of_decide_eq_true (by kernel_rfl)) k0 bel lt0) (trodAll_cons_mk (shut_int Tryd.underlying3 wf1) (trodAll_cons_mk (shut_int Tryd.underlying5 wf2) trodAll_mk0))), rfl, bel.frame _, fun h => by cases h⟩

theorem over : Rows.codeLettersRow.holds Tryd.pinned (OpenSpec.ofChange Rows.codeLettersSpec) :=
  OpenClaim.holds_of_wide 10 Tryd.f10 rfl rfl rfl rfl rfl rfl rfl ⟨rfl, rfl, rfl, rfl, rfl⟩ rfl rfl rfl rfl rfl (by kernel_rfl) Tryd.func10 (by kernel_rfl)
    (of_decide_eq_true (by kernel_rfl)) (by unfold Func.isWrapper; rw [if_neg (of_decide_eq_false (by kernel_rfl))]; exact ⟨rfl, rfl⟩)
    (fun os started H enc _ => lifted os started H enc)

theorem proved : Rows.CodeLettersCardSaid :=
  Claim7.holds_tied_plain_at .later [] Rows.codeLettersCard.laidKinds true Rows.codeLettersCard.stood.harness false
    over (fun _ h => by cases h) (by kernel_rfl) (fun _ h => by cases h) codeLetters_row_tie rfl ⟨rfl, rfl⟩ (by kernel_rfl) rfl
    (fun f fn hf hfn => by
      obtain rfl : f = 10 := Option.some.inj ((show Tryd.prog.funcNamed "aumbry/aumbrylaw01.CodeLetters" = some 10 by kernel_rfl).symm.trans hf) |>.symm
      obtain rfl : fn = Tryd.f10 := (Option.some.inj (Tryd.func10.symm.trans hfn)).symm
      exact ⟨by kernel_rfl, fun j t ht => by
        have ht' : Tryd.f10.params[j]? = some t := ht
        rw [Tryd.params10] at ht'
        have hm : t ∈ [23, 3, 5] := by simpa using Array.mem_of_getElem? ht'
        have hall : ([23, 3, 5].all fun u => !Tryd.prog.wantsStandIn u) = true := by kernel_rfl
        exact (show Tryd.prog.wantsStandIn t = false by simpa using List.all_eq_true.1 hall t hm)⟩)
    (by kernel_rfl)
end Go.Proofs.YtijhcdmjiclnnaaDoor.LawCodeLetters
