/-
CapsBack holds: a capability that is printed and parsed is itself; with a letter turned the text is another capability's, or none's. Conditions: none but the row's own.
-/
import Derived.Test.YtgjepahhbecljaaDoorWakes13
import Derived.Test.YtgjepahhbecljaaDoorParse
import Derived.Test.YtgjepahhbecljaaDoorSameCap
import Derived.Test.YtgjepahhbecljaaDoorCapFrame
import Derived.Test.YtgjepahhbecljaaDoorTied
namespace Go.Proofs.YtgjepahhbecljaaDoor.LawCapsBack
open Go Go.RowKit Go.ChangeShapes Go.WideShapes Go.ChangeAt
set_option linter.unusedVariables false
set_option maxRecDepth 100000

theorem row_set {w : World} {base g cap k : Nat} {cur xs : List Int} {f : Nat × Nat} {c : Int} (hg : base ≤ g) (hB : BlkF w g 5 (u8s cur) f) (hf : f.2 = 0 ∨ cap ≤ f.1) (hl : xs.length ≤ cap) (hm : cap ≤ maxLen) (hc : cur.length = cap) (hb : Bytes cur) (ht : cur.take xs.length = xs)
    (h0 : 0 ≤ c ∧ c < 256) : RowB (w.setCell ⟨g, k, none⟩ (.int .u8 c)) base (.slice (some ⟨g, 0, none⟩) xs.length cap) (xs.set k c) :=
  .inr ⟨g, cap, cur.set k c, f, by rw [List.length_set], hg, by rw [← u8s_set]; exact hB.set_ k _, hf, by rw [List.length_set]; exact hl, hm, by rw [List.length_set]; exact hc, hb.set_ k h0.1 h0.2, by rw [List.length_set, List.take_set, ht]⟩

theorem rowB_pos {w : World} {base n : Nat} {v : Value} {xs : List Int} (h : RowB w base v xs) (hn : xs.length = n) (hp : 0 < n) : ∃ (g cap : Nat) (cur : List Int) (f : Nat × Nat), v = .slice (some ⟨g, 0, none⟩) n cap ∧ base ≤ g ∧ BlkF w g 5 (u8s cur) f ∧ (f.2 = 0 ∨ cap ≤ f.1) ∧
    n ≤ cap ∧ cap ≤ maxLen ∧ cur.length = cap ∧ Bytes cur ∧ cur.take n = xs := by
  subst hn
  rcases h with ⟨_, rfl⟩ | h
  · simp at hp
  · exact h
theorem printF_len {c : CapD} (hw : c.Wf) (hv : c.Valid) : 0 < (printF c).length ∧ (printF c).length ≤ 300 := by
  have hwl : (wordL c.kind.toNat).length ≤ 11 := by
    have h : c.kind.toNat < 10 := by unfold CapD.Valid at hv; omega
    have : ∀ k : Fin 10, (wordL k.val).length ≤ 11 := by decide
    exact this ⟨_, h⟩
  have h1 := b32F_len c.key
  have h2 := b32F_len c.fp
  have h3 := b32F_len c.lit
  have h4 := hw.keyL
  have h5 := hw.fpL
  unfold printF
  constructor
  · simp
  · by_cases k3 : c.kind = 3
    · rw [if_pos k3]
      have hl : c.lit.length ≤ 64 := by unfold CapD.Valid at hv; omega
      simp only [List.length_append, List.length_cons, List.length_nil]
      omega
    · rw [if_neg k3]
      by_cases k2 : c.kind ≤ 2
      · rw [if_pos k2]
        have hb : c.K.toNat < 10 ^ 4 ∧ c.N.toNat < 10 ^ 4 ∧ c.S.toNat < 10 ^ 4 := by unfold CapD.Valid at hv; omega
        have d1 := digB_short 3 _ hb.1
        have d2 := digB_short 3 _ hb.2.1
        have d3 := digB_short 3 _ hb.2.2
        simp only [List.length_append, List.length_cons, List.length_nil]
        omega
      · rw [if_neg k2]
        simp only [List.length_append, List.length_cons, List.length_nil]
        omega

set_option maxHeartbeats 16000000 in
theorem walk (w : World) (ht : Tab w w.heap.size) (c : CapD) (lit : Value) (hc : c.In) (hl : Bs w w.heap.size lit c.lit) (at_ : Int) (hat : In64 at_) (cc : Int) (hcc : 0 ≤ cc ∧ cc < 256) :
    Calls Tryd.prog 7 #[capV c lit, .int .i64 at_, .int .u8 cc] w fun e w' => e = .returned (.bool true) ∧ Below w.heap.size w w' := by
  have HRT := hide (fun (w' : World) (h : Below w.heap.size w w') => right_any c lit w' hc ((hl.below h (Nat.le_refl _)).more h.size))
  have A1 := hide hc.keyL
  have A2 := hide hc.fpL
  have A3 := hide hl.one
  have HWF := hide (right_wf hc.toWf)
  have HVD := hide (right_valid c)
  have HSM := hide (show (rightF c).lit.length ≤ 1000 by have := right_lit c; omega)
  have HT := hide ht
  obtain ⟨ha1, ha2⟩ := hat
  obtain ⟨hc1, hc2⟩ := hcc
  clear hc hl ht
  obtain ⟨CV, HCV⟩ : ∃ x, Hid (capV c lit = x) := ⟨_, hide rfl⟩
  rw [HCV.out] at HRT ⊢
  obtain ⟨RC, HRC⟩ : ∃ x, Hid (rightF c = x) := ⟨_, hide rfl⟩
  rw [HRC.out] at HRT HWF HVD HSM
  have HPL := hide (printF_len HWF.out HVD.out)
  have HPB := hide (printF_bytes HVD.out)
  have HPS := hide (show printS RC = strOfNums (printF RC) from if_pos HVD.out)
  have HPE := hide (show printE RC = 0 from if_pos HVD.out)
  have HPF := hide (show parseF (printF RC) = some RC from (parse_iff _ _).2 ⟨HWF.out, HVD.out, rfl⟩)
  have HOT := hide (fun (X : List Int) (d : CapD) (hx : ¬ X = printF RC) (h : parseF X = some d) => show d.Wf ∧ sameF d RC = false from ⟨((parse_iff _ _).1 h).1, by
    rw [Bool.eq_false_iff]
    intro hs
    rw [sameF_iff] at hs
    exact hx (by rw [← ((parse_iff _ _).1 h).2.2, hs])⟩)
  have HPRI := hide (fun (w' : World) (l : Value) (h : Bs w' w'.heap.size l RC.lit) (ht : Tab w' w'.heap.size) => Print_any RC l w' { toWf := HWF.out, row := h, small := HSM.out } ht)
  have HSAME := hide (fun (w' : World) (D : CapD) (l1 l2 : Value) (hd : D.Wf) (h1 : Bs w' w'.heap.size l1 D.lit) (h2 : Bs w' w'.heap.size l2 RC.lit) => same_caps D RC l1 l2 w' hd.keyL hd.fpL HWF.out.keyL HWF.out.fpL h1 h2 hd.litB HWF.out.litB)
  rw [HPE.out, HPS.out] at HPRI
  obtain ⟨P, HP⟩ : ∃ x, Hid (printF RC = x) := ⟨_, hide rfl⟩
  rw [HP.out] at HPL HPB HPRI HPF HOT
  obtain ⟨S, HS⟩ : ∃ x, Hid (strOfNums P = x) := ⟨_, hide rfl⟩
  rw [HS.out] at HPRI
  have HSB := hide (show strB S = P by rw [← HS.out, strB_of HPB.out])
  obtain ⟨L, HL⟩ : ∃ n, Hid (P.length = n) := ⟨_, hide rfl⟩
  have hSL : S.size = L := by rw [← strB_len, HSB.out, HL.out]
  rw [HL.out] at HPL
  obtain ⟨hL0, hL⟩ := HPL.out
  have hsz1 : S.size ≤ L := by omega
  have hsz2 : L ≤ S.size := by omega
  have HSZ := hide hSL
  clear hSL HPS HPE HP
  have HPA := hide (fun (w' : World) (ht : Tab w' w'.heap.size) => Parse_any S w' ht (by omega))
  rw [HSB.out] at HPA
  go_enter Tryd.func7, Tryd.ntmps7
  go_wp2_with (first
    | (refine wpList_cap_new _ rfl (HCV.out.symm) rfl A1.out A2.out A3.out ?_; intro w1 hb1 hw1 hs1; have BA := hide hb1; have HW := hide hw1; clear hb1 hw1)
    | (refine wpList_cap_all _ rfl rfl rfl BA.out ?_; rw [HCV.out]))
  refine (HRT.out _ HW.out).mono ?_
  rintro e w2 ⟨l1, rfl, ho1, hb2⟩
  have hs2 := hb2.size
  have HO := hide ho1
  have H1 := hide (own_one ho1 l1 (by simp))
  replace BA := hide (BA.out.below hb2 BA.out.lt)
  replace HW := hide (HW.out.trans (hb2.mono HW.out.size))
  clear ho1 hb2 HRT
  obtain ⟨RV, HRV⟩ : ∃ x, Hid (capV RC l1 = x) := ⟨_, hide rfl⟩
  rw [HRV.out]
  go_upto_region 2 with (first
    | (refine wpList_cap_putAll _ _ rfl rfl rfl BA.out RC l1 HRV.out.symm HWF.out.keyL HWF.out.fpL H1.out ?_; intro w3 hb3 hg3 hs3; have HOB := BA; replace BA := hide hb3; replace HW := hide (HW.out.grown hg3 HW.out.size (by intro k hk; simp at hk; omega)); replace HO := hide (World.ownsRow.kept HO.out hg3 (.inr (by rintro h; exact own_ne_blk HO.out HOB.out.blk (by decide) h.symm))); clear hb3 hg3))
  have L1 := hide (show Bs w3 w3.heap.size l1 RC.lit from Rd.of_own HO.out)
  clear HO
  have hz3 := HW.out.size
  have hgz := BA.out.lt
  have HTT := hide (fun (w' : World) (h : Below w3.heap.size w3 w') => show Tab w' w'.heap.size from (HT.out.below (HW.out.trans (h.mono hz3)) (Nat.le_refl _)).more (HW.out.trans (h.mono hz3)).size)
  have L1B := hide (fun (w' : World) (h : Below w3.heap.size w3 w') => show Bs w' w'.heap.size l1 RC.lit from (L1.out.below h (Nat.le_refl _)).more h.size)
  have BAB := hide (fun (w' : World) (h : Below w3.heap.size w3 w') => show CapB w' w.heap.size RC l1 from BA.out.below h hgz)
  have HWK := hide (fun (w' : World) (h : Below w3.heap.size w3 w') => wakes13 w' (HTT.out w' h))
  clear BA L1
  have W3 := hide (Below.refl w3.heap.size w3)
  go_wp2_with (first
    | (refine wpList_cap_all _ rfl rfl rfl (BAB.out _ W3.out) ?_; rw [HRV.out]))
  have HPX := hide (HPRI.out w3 l1 (L1B.out _ W3.out) (HTT.out _ W3.out))
  rw [HRV.out] at HPX
  refine HPX.out.mono ?_
  rintro e w4 ⟨rfl, hb4⟩
  replace W3 := hide (W3.out.trans hb4)
  clear hb4 HPX HPRI
  go_wp2_with fail
  refine (HPA.out _ (HTT.out _ W3.out)).mono ?_
  rintro e w5 hpost
  have hp2 : ∃ l2, e = .returned (.tuple #[capV RC l2, .int .i64 0]) ∧ RowB w5 w4.heap.size l2 RC.lit ∧ Below w4.heap.size w4 w5 := by
    rcases hpost with ⟨d, l2, hpf, he, hr, hb⟩ | ⟨hpf, _⟩
    · rw [HPF.out] at hpf
      injection hpf with hpf
      subst hpf
      exact ⟨l2, he, hr, hb⟩
    · rw [HPF.out] at hpf
      cases hpf
  clear hpost
  obtain ⟨l2, rfl, hr2, hb5⟩ := hp2
  have hz4 := W3.out.size
  replace W3 := hide (W3.out.trans (hb5.mono hz4))
  have O2 := hide hr2.one
  have L2 := hide hr2.reads
  have W5 := hide (Below.refl w5.heap.size w5)
  have hz5 := W3.out.size
  clear hr2 hb5 HPF
  obtain ⟨DV, HDV⟩ : ∃ x, Hid (capV RC l2 = x) := ⟨_, hide rfl⟩
  rw [HDV.out]
  have hs0 : ((S.size : Int) == 0) = false := beq_eq_false_iff_ne.2 (by omega)
  have HSS := hide (fun (w' : World) (h : Below w3.heap.size w3 w') (h5 : Below w5.heap.size w5 w') => HSAME.out w' RC l1 l2 HWF.out (L1B.out _ h))
  have HSQ := hide (fun (w' : World) (h : Below w3.heap.size w3 w') (h5 : Below w5.heap.size w5 w') => same_caps RC RC l1 l2 w' HWF.out.keyL HWF.out.fpL HWF.out.keyL HWF.out.fpL (L1B.out _ h) ((L2.out.below h5 (Nat.le_refl _)).more h5.size) HWF.out.litB HWF.out.litB)
  rw [sameF_self, HRV.out, HDV.out] at HSQ
  clear HSS
  go_upto_region 7 with (first
    | go_skip
    | (refine wpList_cap_zero rfl rfl ?_; intro wz hbz hwz hsz; have BD := hide hbz; replace W3 := hide (W3.out.trans (hwz.mono hz5)); replace W5 := hide (W5.out.trans hwz); clear hbz hwz)
    | (refine wpList_cap_putAll _ _ rfl rfl rfl BD.out RC l2 HDV.out.symm HWF.out.keyL HWF.out.fpL O2.out ?_; intro wp hbp hgp hsp; replace BD := hide hbp; replace W3 := hide (W3.out.grown hgp W3.out.size (by intro k hk; simp at hk; omega)); replace W5 := hide (W5.out.grown hgp W5.out.size (by intro k hk; simp at hk; omega)); clear hbp hgp)
    | (refine wpList_cap_all _ rfl rfl rfl (BAB.out _ W3.out) ?_; rw [HRV.out])
    | (refine wpList_cap_all _ rfl rfl rfl BD.out ?_; rw [HDV.out])
    | (go_at_call 19; refine (HSQ.out _ W3.out W5.out).mono ?_; rintro e w8 ⟨rfl, hb8⟩; replace W3 := hide (W3.out.trans (hb8.mono W3.out.size)); clear hb8 W5 BD)
    | (refine wpList_to_bytes rfl _ rfl S rfl (by unfold maxLen; omega) ?_; intro v45 w9 ho45 hb45; rw [HSB.out] at ho45; obtain ⟨g, cap, cur, f, rfl, hg, hB, hf, hnc, hcm, hcl, hcb, htk⟩ := rowB_pos ho45 HL.out (by omega); have HBK := hide hB; have HCL := hide hcl; have HCB := hide hcb; have HTK := hide htk; have HG := hide hg; have HBL := hide hb45; clear ho45 hb45 hB hcl hcb htk))
  go_wp2_with fail
  refine (within_any at_ L _ ha1 ha2 (by omega)).mono ?_
  rintro e w' ⟨rfl, rfl⟩
  obtain ⟨k, ek, hk⟩ : ∃ a : Nat, within at_ L = (a : Int) ∧ a < L := by
    unfold within; rw [if_neg (by omega)]
    have h1 := Int.emod_nonneg at_ (show (L : Int) ≠ 0 by omega)
    have h2 := Int.emod_lt_of_pos at_ (show (0 : Int) < L by omega)
    exact ⟨(at_ % L).toNat, by omega, by omega⟩
  rw [ek]
  clear ek
  have hkc : k < (u8s cur).length := by rw [u8s_len, HCL.out]; omega
  have cc1 := (HBK.out.cell k).trans (List.getElem?_eq_getElem hkc)
  have ff1 := HBK.out.frozen k (by rcases hf with h | h; exact .inl h; exact .inr (by omega))
  obtain ⟨old, HOLD⟩ : ∃ o, Hid ((u8s cur)[k]'hkc = o) := ⟨_, hide rfl⟩
  rw [HOLD.out] at cc1
  have k0 : (0 : Int) ≤ (k : Int) := by omega
  have k1 : (k : Int) < (L : Int) := by omega
  have HLS := hide (show (P.set k cc).length = L by rw [List.length_set, HL.out])
  have HNB := hide (show Bytes (P.set k cc) from HPB.out.set_ k hc1 hc2)
  have HRS := hide (show RowB (w9.setCell ⟨g, k, none⟩ (.int .u8 cc)) w8.heap.size (.slice (some ⟨g, 0, none⟩) L cap) (P.set k cc) by
    have := row_set (k := k) (xs := P) HG.out HBK.out hf (by rw [HL.out]; exact hnc) hcm HCL.out HCB.out (by rw [HL.out]; exact HTK.out) ⟨hc1, hc2⟩
    rw [HL.out] at this
    exact this)
  have hz8 := W3.out.size
  have hgg := HG.out
  replace W3 := hide (show Below w3.heap.size w3 (w9.setCell ⟨g, k, none⟩ (.int .u8 cc)) from (W3.out.trans (HBL.out.mono hz8)).setCell (p := ⟨g, k, none⟩) (show w3.heap.size ≤ g by omega) _)
  obtain ⟨X, HX⟩ : ∃ x, Hid (P.set k cc = x) := ⟨_, hide rfl⟩
  rw [HX.out] at HLS HNB HRS
  clear HX hkc HOLD
  have HTB := hide (strB_of HNB.out)
  obtain ⟨t, HTT2⟩ : ∃ t, Hid (strOfNums X = t) := ⟨_, hide rfl⟩
  rw [HTT2.out] at HTB
  have htl : t.size = L := by rw [← strB_len, HTB.out, HLS.out]
  have hts1 : t.size ≤ L := by omega
  have HEQ := hide (show X = P → t = S from fun h => by rw [← HTT2.out, h, HS.out])
  have HEQ2 := hide (show t = S → X = P from fun h => by rw [← HTB.out, h, HSB.out])
  clear htl
  obtain ⟨ws, HWS⟩ : ∃ ws, Hid (w9.setCell ⟨g, k, none⟩ (.int .u8 cc) = ws) := ⟨_, hide rfl⟩
  rw [HWS.out] at HRS W3
  go_wp2_with (first
    | (refine wpList_to_string rfl _ rfl _ _ X rfl (by rw [HWS.out]; exact HRS.out.reads) ?_; rw [HTT2.out, HWS.out]))
  clear HWS HBL HBK HCL HCB HTK cc1 ff1 hf
  have HT2 := hide (Parse_any t ws (HTT.out _ W3.out) (by omega))
  rw [HTB.out] at HT2
  refine HT2.out.mono ?_
  rintro e wx hpost
  have hpo : ∃ (D : CapD) (l3 : Value) (er : Int), e = .returned (.tuple #[capV D l3, .int .i64 er]) ∧ D.Wf ∧ RowB wx ws.heap.size l3 D.lit ∧ Below ws.heap.size ws wx ∧ ((er = 0 ∧ parseF X = some D) ∨ er = 2) := by
    rcases hpost with ⟨d, l2, hpf, he, hr, hb⟩ | ⟨hpf, he, hb⟩
    · exact ⟨d, l2, 0, he, ((parse_iff _ _).1 hpf).1, hr, hb, .inl ⟨rfl, hpf⟩⟩
    · exact ⟨_, _, 2, he, CapD.none_wf, RowB.nil_ _ _, hb, .inr rfl⟩
  clear hpost HT2
  obtain ⟨D, l3, er, rfl, hdw, hr3, hbx, her⟩ := hpo
  have hzs := W3.out.size
  have HDW := hide hdw
  have HER := hide her
  have O3 := hide hr3.one
  have L3 := hide hr3.reads
  have WX := hide (Below.refl wx.heap.size wx)
  replace W3 := hide (W3.out.trans (hbx.mono hzs))
  replace HRS := hide (HRS.out.keptB hbx)
  have hzx := W3.out.size
  have HRX := hide (fun (w' : World) (h : Below wx.heap.size wx w') => HRS.out.keptB h)
  clear hr3 hbx her hdw HRS
  obtain ⟨XV, HXV⟩ : ∃ x, Hid (capV D l3 = x) := ⟨_, hide rfl⟩
  rw [HXV.out]
  obtain ⟨q, HQ⟩ : ∃ q, Hid ((t.toList == S.toList) = q) := ⟨_, hide rfl⟩
  have eq1 := HQ.out
  go_upto_region 9 with (first
    | (refine wpList_cap_zero rfl rfl ?_; intro wz hbz hwz hsz; have BX := hide hbz; replace W3 := hide (W3.out.trans (hwz.mono hzx)); replace WX := hide (WX.out.trans hwz); clear hbz hwz)
    | (refine wpList_cap_putAll _ _ rfl rfl rfl BX.out D l3 HXV.out.symm HDW.out.keyL HDW.out.fpL O3.out ?_; intro wp hbp hgp hsp; replace BX := hide hbp; replace W3 := hide (W3.out.grown hgp W3.out.size (by intro k hk; simp at hk; omega)); replace WX := hide (WX.out.grown hgp WX.out.size (by intro k hk; simp at hk; omega)); clear hbp hgp))
  by_cases hts : t = S
  · obtain rfl : true = q := by rw [← HQ.out, hts]; exact (beq_self_eq_true _).symm
    go_wp2_with (first
      | (refine wpList_to_string rfl _ rfl _ _ X rfl (HRX.out _ WX.out).reads ?_; rw [HTT2.out])
      | (go_at_call 18; refine (HWK.out _ W3.out).mono ?_; rintro e w7 ⟨rfl, hb7⟩; replace W3 := hide (W3.out.trans (hb7.mono W3.out.size)); clear hb7))
    go_ret
    exact ⟨rfl, HW.out.trans (W3.out.mono hz3)⟩
  · obtain rfl : false = q := by rw [← HQ.out]; exact (str_ne hts).symm
    rcases HER.out with ⟨h0, hpf⟩ | h2
    · have HSD := hide (HOT.out X D (fun h => hts (HEQ.out h)) hpf).2
      have HSC := hide (fun (w' : World) (h : Below w3.heap.size w3 w') (hx : Below wx.heap.size wx w') => HSAME.out w' D l3 l1 HDW.out ((L3.out.below hx (Nat.le_refl _)).more hx.size) (L1B.out _ h))
      rw [HSD.out, HRV.out, HXV.out] at HSC
      subst h0
      clear hpf hts
      go_wp2_with (first
        | go_skip
        | (refine wpList_to_string rfl _ rfl _ _ X rfl (HRX.out _ WX.out).reads ?_; rw [HTT2.out])
        | (refine wpList_cap_all _ rfl rfl rfl (BAB.out _ W3.out) ?_; rw [HRV.out])
        | (refine wpList_cap_all _ rfl rfl rfl BX.out ?_; rw [HXV.out])
        | (go_at_call 19; refine (HSC.out _ W3.out WX.out).mono ?_; rintro e w8 ⟨rfl, hb8⟩; replace W3 := hide (W3.out.trans (hb8.mono W3.out.size)); clear hb8 WX BX)
        | (go_at_call 18; refine (HWK.out _ W3.out).mono ?_; rintro e w7 ⟨rfl, hb7⟩; replace W3 := hide (W3.out.trans (hb7.mono W3.out.size)); clear hb7))
      go_ret
      exact ⟨rfl, HW.out.trans (W3.out.mono hz3)⟩
    · subst h2
      clear hts
      go_wp2_with (first
        | go_skip
        | (refine wpList_to_string rfl _ rfl _ _ X rfl (HRX.out _ WX.out).reads ?_; rw [HTT2.out])
        | (go_at_call 18; refine (HWK.out _ W3.out).mono ?_; rintro e w7 ⟨rfl, hb7⟩; replace W3 := hide (W3.out.trans (hb7.mono W3.out.size)); clear hb7))
      go_ret
      exact ⟨rfl, HW.out.trans (W3.out.mono hz3)⟩

set_option maxRecDepth 100000 in
theorem lifted (os : Os) (started : os.Started) (H : Type) (enc : TypeId × Value → H) :
    ReturnsInHanded {} Tryd.checked os 7 .any (fun w args => (Rows.capsBackSpec.pre enc Tryd.prog Tryd.f7 [] false w args ∧ laidMetH Tryd.prog laidD w) ∧ sizedMet enc Tryd.prog Tryd.f7 (OpenSpec.ofChange Rows.capsBackSpec) false w args)
      (Rows.capsBackSpec.post enc Tryd.prog Tryd.f7 false true false false) := by
  refine returnsInHanded_of_change_and (C := Tryd.checked) (X := fun w _ => laidMetH Tryd.prog laidD w) (fun _ _ _ hh h => h.of_heap hh) own started (by kernel_rfl) Tryd.func7
    (ChangeSpec.witness_shaped (enc := enc) (C := Tryd.checked) (os := os) (X := fun w _ => laidMetH Tryd.prog laidD w) false (World.doorLaid Tryd.prog doorSteps os) #[capV CapD.none_ (.slice none 0 0), .int .i64 0, .int .u8 0] 8 rfl (World.shaped_of_RefB (by kernel_rfl) (by kernel_rfl)) (by kernel_rfl) (by kernel_rfl) (by kernel_rfl) (door_met os _)) ?_
  intro W base args ds gs before hval0 hW _ _ hL _
  have hT := tab_of hL
  have hval : ∀ (j : Nat) t v, Tryd.f7.params[j]? = some t → args[j]? = some v → Value.okWide Tryd.prog W .any base t v := hval0
  have hW' := hW
  obtain ⟨p, q, hA0, hV, rfl, hfz, hnd⟩ := hW
  have hA : DataW.TrodAll enc Tryd.prog W 0 (fun _ => true) true Tryd.f7.params.toList args.toList ds p := hA0
  rw [Tryd.params7] at hA hval
  obtain ⟨v0, vs0, d0, ds0, p0, q0, hargs, rfl, rfl, h0, r0⟩ := trodAll_cons hA
  obtain ⟨v1, vs1, d1, ds1, p1, q1, rfl, rfl, rfl, h1, r1⟩ := trodAll_cons r0
  obtain ⟨v2, vs2, d2, ds2, p2, q2, rfl, rfl, rfl, h2, r2⟩ := trodAll_cons r1
  obtain ⟨rfl, rfl, rfl⟩ := trodAll_nil r2
  obtain rfl : args = #[v0, v1, v2] := by cases args; simp_all
  obtain ⟨rfl, rfl⟩ := trodVars_none hV
  have k0 := h0
  have lt0 : ∀ x ∈ p0, x.block < W.heap.size := by obtain ⟨m, hm⟩ := k0; exact DataW.trod_lt m _ _ _ hm
  obtain ⟨z0, l0, rfl, w0, b0⟩ := read_cap (hval 0 28 v0 rfl rfl) h0
  obtain ⟨a1, rfl, rfl, rfl, wf1⟩ := open_int Tryd.underlying3 (hval 1 3 v1 rfl rfl) h1
  obtain ⟨a2, rfl, rfl, rfl, wf2⟩ := open_int Tryd.underlying5 (hval 2 5 v2 rfl rfl) h2
  clear hA0 hval0
  refine (walk W hT z0 l0 w0 b0 a1 (in64_wf wf1) a2 (u8_wf wf2)).mono fun e W' ⟨he, bel⟩ => ?_
  subst he
  exact ⟨_, rfl, _, _, _, [], _, [], hW', trodAll_mk1 (shut_bool Tryd.underlying4 _), (trodAll_cons_mk (Below.trod laidOut (by kernel_rfl) (of_decide_eq_true (by kernel_rfl)) k0 bel lt0) (trodAll_cons_mk (shut_int Tryd.underlying3 wf1) (trodAll_cons_mk (shut_int Tryd.underlying5 wf2) trodAll_mk0))), rfl, bel.frame _, fun h => by cases h⟩

theorem over : Rows.capsBackRow.holds Tryd.pinned (OpenSpec.ofChange Rows.capsBackSpec) :=
  OpenClaim.holds_of_wide 7 Tryd.f7 rfl rfl rfl rfl rfl rfl rfl ⟨rfl, rfl, rfl, rfl, rfl⟩ rfl rfl rfl rfl rfl (by kernel_rfl) Tryd.func7 (by kernel_rfl)
    (of_decide_eq_true (by kernel_rfl)) (by unfold Func.isWrapper; rw [if_neg (of_decide_eq_false (by kernel_rfl))]; exact ⟨rfl, rfl⟩)
    (fun os started H enc _ => lifted os started H enc)

theorem proved : Rows.CapsBackCardSaid :=
  Claim7.holds_tied_plain_at .later [] Rows.capsBackCard.laidKinds true Rows.capsBackCard.stood.harness Rows.capsBackCard.stood.looks
    over (fun _ h => by cases h) (by kernel_rfl) (fun _ h => by cases h) capsBack_row_tie rfl ⟨rfl, rfl⟩ (by kernel_rfl) rfl
    (fun f fn hf hfn => by
      obtain rfl : f = 7 := Option.some.inj ((show Tryd.prog.funcNamed "aumbry/aumbrylaw13.CapsBack" = some 7 by kernel_rfl).symm.trans hf) |>.symm
      obtain rfl : fn = Tryd.f7 := (Option.some.inj (Tryd.func7.symm.trans hfn)).symm
      exact ⟨by kernel_rfl, fun j t ht => by
        have ht' : Tryd.f7.params[j]? = some t := ht
        rw [Tryd.params7] at ht'
        have hm : t ∈ [28, 3, 5] := by simpa using Array.mem_of_getElem? ht'
        have hall : ([28, 3, 5].all fun u => !Tryd.prog.wantsStandIn u) = true := by kernel_rfl
        exact (show Tryd.prog.wantsStandIn t = false by simpa using List.all_eq_true.1 hall t hm)⟩)
    (by kernel_rfl)
end Go.Proofs.YtgjepahhbecljaaDoor.LawCapsBack
