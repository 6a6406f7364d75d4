/- aumbrylaw13.Valid: any capability as one that may be. No condition. -/
import Derived.Test.YthdjgebbjogmiaaDoorJoin10
import Derived.Test.YthdjgebbjogmiaaDoorJoin4
import Derived.Deep.RegionHeld3
set_option linter.unusedVariables false
set_option linter.unusedSimpArgs false
namespace Go.Proofs.YthdjgebbjogmiaaDoor
open Go Go.RowKit
set_option linter.unusedVariables false
set_option maxRecDepth 100000

/-- Any capability as one that may be. -/
def rightF (c : CapD) : CapD :=
 if 1 + within c.kind 9 = 1 ∨ 1 + within c.kind 9 = 2 then ⟨1 + within c.kind 9, c.key, c.fp, 1 + within c.K (1 + within c.N 16), 1 + within c.N 16, 1 + within c.S 1024, []⟩
 else if 1 + within c.kind 9 = 3 then ⟨3, zeros 16, zeros 32, 0, 0, 0, c.lit.take 64⟩
 else ⟨1 + within c.kind 9, c.key, c.fp, 0, 0, 0, []⟩
theorem rightF_eq (c : CapD) : rightF c = if 1 + within c.kind 9 = 1 ∨ 1 + within c.kind 9 = 2 then ⟨1 + within c.kind 9, c.key, c.fp, 1 + within c.K (1 + within c.N 16), 1 + within c.N 16, 1 + within c.S 1024, []⟩ else if 1 + within c.kind 9 = 3 then ⟨3, zeros 16, zeros 32, 0, 0, 0, c.lit.take 64⟩ else ⟨1 + within c.kind 9, c.key, c.fp, 0, 0, 0, []⟩ := rfl
theorem within_lt (v n : Int) (hn : 1 ≤ n) : 0 ≤ within v n ∧ within v n < n := by
 unfold within
 rw [if_neg (by omega)]
 exact ⟨Int.emod_nonneg _ (by omega), Int.emod_lt_of_pos _ (by omega)⟩
theorem right_wf {c : CapD} (h : c.Wf) : (rightF c).Wf := by
 have e0 : Bytes [] := fun x hx => by cases hx
 unfold rightF
 split
 · exact ⟨h.keyL, h.keyB, h.fpL, h.fpB, e0⟩
 · split
   · exact ⟨rfl, zeros_bytes 16, rfl, zeros_bytes 32, fun x hx => h.litB x (List.mem_of_mem_take hx)⟩
   · exact ⟨h.keyL, h.keyB, h.fpL, h.fpB, e0⟩
theorem right_valid (c : CapD) : (rightF c).Valid := by
 have a1 := within_lt c.kind 9 (by omega)
 have a2 := within_lt c.N 16 (by omega)
 have a3 := within_lt c.K (1 + within c.N 16) (by omega)
 have a4 := within_lt c.S 1024 (by omega)
 unfold rightF
 split
 · next h => exact .inl ⟨h, by show 1 ≤ 1 + within c.K (1 + within c.N 16); omega, by show 1 + within c.K (1 + within c.N 16) ≤ 1 + within c.N 16; omega, by show 1 + within c.N 16 ≤ 16; omega, by show 1 ≤ 1 + within c.S 1024; omega, by show 1 + within c.S 1024 ≤ 1024; omega, rfl⟩
 · split
   · exact .inr (.inl ⟨rfl, by simp; omega, rfl, rfl, rfl, rfl, rfl⟩)
   · next h1 h2 => exact .inr (.inr ⟨by show 4 ≤ 1 + within c.kind 9; omega, by show 1 + within c.kind 9 ≤ 9; omega, rfl, rfl, rfl, rfl⟩)
set_option maxHeartbeats 8000000 in
theorem right_any (c : CapD) (lit : Value) (w : World) (hc : c.In) (hl : Bs w w.heap.size lit c.lit) :
 Calls Tryd.prog 36 #[capV c lit] w fun e w' => ∃ l', e = .returned (capV (rightF c) l') ∧ Own8 w' w.heap.size l' (rightF c).lit ∧ Below w.heap.size w w' := by
 have H3 := hide hl.one
 have HL := hide hl
 have H1 := hide hc.keyL
 have H2 := hide hc.fpL
 have HIK := hide hc.kindI
 have HIN := hide hc.NI
 have HIKK := hide hc.KI
 have HIS := hide hc.SI
 have HRF := hide (rightF_eq c)
 clear hc hl
 obtain ⟨CV, HCV⟩ : ∃ x, Hid (capV c lit = x) := ⟨_, hide rfl⟩
 rw [HCV.out]
 obtain ⟨ZS, HZS⟩ : ∃ x, Hid (c.lit.take 64 = x) := ⟨_, hide rfl⟩
 obtain ⟨NN, HNN⟩ : ∃ x, Hid (CapD.none_ = x) := ⟨_, hide rfl⟩
 obtain ⟨Z16, HZ16⟩ : ∃ x, Hid (zeros 16 = x) := ⟨_, hide rfl⟩
 obtain ⟨Z32, HZ32⟩ : ∃ x, Hid (zeros 32 = x) := ⟨_, hide rfl⟩
 have HL16 := hide (show Z16.length = 16 by rw [← HZ16.out]; rfl)
 have HL32 := hide (show Z32.length = 32 by rw [← HZ32.out]; rfl)
 rw [HZS.out, HZ16.out, HZ32.out] at HRF
 have a1 := within_lt c.kind 9 (by omega)
 have a2 := within_lt c.N 16 (by omega)
 have a3 := within_lt c.K (1 + within c.N 16) (by omega)
 have a4 := within_lt c.S 1024 (by omega)
 obtain ⟨x9, X9⟩ : ∃ x, Hid (within c.kind 9 = x) := ⟨_, hide rfl⟩
 obtain ⟨x16, X16⟩ : ∃ x, Hid (within c.N 16 = x) := ⟨_, hide rfl⟩
 rw [X9.out] at a1 HRF
 rw [X16.out] at a2 a3 HRF
 obtain ⟨kd, hkd⟩ : ∃ x, 1 + x9 = x := ⟨_, rfl⟩
 obtain ⟨nn, hnn⟩ : ∃ x, 1 + x16 = x := ⟨_, rfl⟩
 rw [hnn] at a3 HRF
 rw [hkd] at HRF
 obtain ⟨xk, XK⟩ : ∃ x, Hid (within c.K nn = x) := ⟨_, hide rfl⟩
 obtain ⟨xs, XS⟩ : ∃ x, Hid (within c.S 1024 = x) := ⟨_, hide rfl⟩
 rw [XK.out] at a3 HRF
 rw [XS.out] at a4 HRF
 obtain ⟨kk, hkk⟩ : ∃ x, 1 + xk = x := ⟨_, rfl⟩
 obtain ⟨ss, hss⟩ : ∃ x, 1 + xs = x := ⟨_, rfl⟩
 rw [hkk, hss] at HRF
 have e9 : IntKind.i64.wrap (1 + x9) = kd := by rw [← hkd]; simp [IntKind.wrap, IntKind.bits, IntKind.signed]; omega
 have e16 : IntKind.i64.wrap (1 + x16) = nn := by rw [← hnn]; simp [IntKind.wrap, IntKind.bits, IntKind.signed]; omega
 have ek : IntKind.i64.wrap (1 + xk) = kk := by rw [← hkk]; simp [IntKind.wrap, IntKind.bits, IntKind.signed]; omega
 have es : IntKind.i64.wrap (1 + xs) = ss := by rw [← hss]; simp [IntKind.wrap, IntKind.bits, IntKind.signed]; omega
 have HW9 := hide (fun w' => within_any c.kind 9 w' HIK.out.1 HIK.out.2 (by omega))
 have HW16 := hide (fun w' => within_any c.N 16 w' HIN.out.1 HIN.out.2 (by omega))
 have HWK := hide (fun w' => within_any c.K nn w' HIKK.out.1 HIKK.out.2 (by omega))
 have HWS := hide (fun w' => within_any c.S 1024 w' HIS.out.1 HIS.out.2 (by omega))
 rw [X9.out] at HW9
 rw [X16.out] at HW16
 rw [XK.out] at HWK
 rw [XS.out] at HWS
 have HKD := hide hkd
 clear hkd hnn hkk hss
 go_enter Tryd.func36, Tryd.ntmps36
 go_upto_region 2 with (first
  | (refine wpList_cap_new _ rfl (HCV.out.symm) rfl H1.out H2.out H3.out ?_; intro w1 hb1 hw1 hs1; have HB := hide hb1; have HW := hide hw1; clear hb1 hw1)
  | (refine wpList_cap_zero rfl rfl ?_; rw [HNN.out]; intro w2 hb2 hw2 hs2; rw [hs1] at hb2; have HZ := hide hb2; replace HB := hide (HB.out.below hw2 HB.out.lt); replace HW := hide (HW.out.trans (hw2.mono (by omega))); clear hb2 hw2)
  | (refine wpList_cap_int _ rfl _ rfl rfl HB.out _ rfl ?_)
  | (go_at_call 18; refine (HW9.out _).mono ?_; rintro e w' ⟨rfl, rfl⟩)
  | (refine wpList_cap_put _ _ rfl _ rfl rfl HB.out kd rfl _ rfl ?_; intro w3 hb3 hg3 hs3; replace HB := hide hb3; replace HZ := hide (HZ.out.grown hg3 (by intro h; injection h with h; omega)); replace HW := hide (HW.out.grown hg3 (by omega) (by intro k hk; simp at hk; omega)); clear hb3 hg3))
 go_upto_region 3 with (first
  | (refine wpList_cap_int _ rfl _ rfl rfl HB.out _ rfl ?_)
  | (go_at_call 18; refine (HW16.out _).mono ?_; rintro e w' ⟨rfl, rfl⟩))
 refine wp_region_held_drew (S := fun w' => Below w3.heap.size w3 w') (by kernel_rfl) (Below.refl _ _).drew (fun hHeld => ?_)
 refine take_e 16 (i := 0) (v := .pointer (some ⟨w.heap.size, 49, none⟩)) rfl (by kernel_rfl) (Or.inl ⟨by kernel_rfl, fun w' hS => exec_field _ 3 49 rfl _ rfl rfl⟩) hHeld ?_
 simp only [Act.put, s1_, s2_, s3_]
 refine take_e 17 (i := 1) (v := .int .i64 c.K) rfl (by kernel_rfl) (Or.inl ⟨by kernel_rfl, fun w' hS => exec_load_one _ _ rfl _ 49 rfl _ Tryd.underlying3 rfl _ ((HB.out.below hS HB.out.lt).int_ rfl)⟩) hHeld ?_
 simp only [Act.put, s1_, s2_, s3_]
 refine take_e 18 (i := 2) (v := .int .i64 nn) rfl (by kernel_rfl) (Or.inl ⟨by kernel_rfl, fun w' hS => exec_move _ rfl _ rfl⟩) hHeld ?_
 simp only [Act.put, s1_, s2_, s3_]
 refine take_e 21 (i := 5) (v := .pointer (some ⟨w.heap.size, 51, none⟩)) rfl (by kernel_rfl) (Or.inl ⟨by kernel_rfl, fun w' hS => exec_field _ 5 51 rfl _ rfl rfl⟩) hHeld ?_
 simp only [Act.put, s1_, s2_, s3_]
 refine take_e 22 (i := 6) (v := .int .i64 c.S) rfl (by kernel_rfl) (Or.inl ⟨by kernel_rfl, fun w' hS => exec_load_one _ _ rfl _ 51 rfl _ Tryd.underlying3 rfl _ ((HB.out.below hS HB.out.lt).int_ rfl)⟩) hHeld ?_
 simp only [Act.put, s1_, s2_, s3_]
 refine take_e 25 (i := 9) (v := .pointer (some ⟨w.heap.size, 52, none⟩)) rfl (by kernel_rfl) (Or.inl ⟨by kernel_rfl, fun w' hS => exec_field _ 6 52 rfl _ rfl rfl⟩) hHeld ?_
 simp only [Act.put, s1_, s2_, s3_]
 refine take_e 26 (i := 10) (v := lit) rfl (by kernel_rfl) (Or.inl ⟨by kernel_rfl, fun w' hS => exec_load_one _ _ rfl _ 52 rfl _ Tryd.underlying26 rfl _ (HB.out.below hS HB.out.lt).lit_⟩) hHeld ?_
 simp only [Act.put, s1_, s2_, s3_]
 refine wpAnyH_ready (rs := [3]) (by kernel_rfl) (by simp) (AllReadyH.cons rfl (fun K hK => ?_) AllReadyH.nil)
 rw [if_pos (by kernel_rfl)]
 try go_simp
 refine (HWK.out _).mono ?_
 rintro e wc ⟨rfl, rfl⟩
 refine hK.out _ _ hHeld (fun hHeld => ?_)
 clear hK K
 try simp only [Act.put, s1_, s2_, s3_]
 refine take_e 20 (i := 4) (v := .int .i64 kk) rfl (by kernel_rfl) (Or.inl ⟨by kernel_rfl, fun w' hS => by go_simp⟩) hHeld ?_
 simp only [Act.put, s1_, s2_, s3_]
 refine wpAnyH_ready (rs := [7]) (by kernel_rfl) (by simp) (AllReadyH.cons rfl (fun K hK => ?_) AllReadyH.nil)
 rw [if_pos (by kernel_rfl)]
 try go_simp
 refine (HWS.out _).mono ?_
 rintro e wc ⟨rfl, rfl⟩
 refine hK.out _ _ hHeld (fun hHeld => ?_)
 clear hK K
 try simp only [Act.put, s1_, s2_, s3_]
 refine take_e 24 (i := 8) (v := .int .i64 ss) rfl (by kernel_rfl) (Or.inl ⟨by kernel_rfl, fun w' hS => by go_simp⟩) hHeld ?_
 simp only [Act.put, s1_, s2_, s3_]
 refine wpAnyH_ready (rs := [11]) (by kernel_rfl) (by simp) (AllReadyH.cons rfl (fun K hK => ?_) AllReadyH.nil)
 rw [if_pos (by kernel_rfl)]
 try go_simp
 refine (cut_bytes lit c.lit 64 _ w.heap.size (HL.out.below (HW.out.trans (hHeld.mono (by omega))) (Nat.le_refl _)) (by omega) (by omega)).mono ?_
 rintro e wc ⟨lc, rfl, hlc, rfl⟩
 rw [show (64 : Int).toNat = 64 from rfl, HZS.out] at hlc
 have HLC := hide hlc
 clear hlc
 refine hK.out _ _ hHeld (fun hHeld => ?_)
 clear hK K
 try simp only [Act.put, s1_, s2_, s3_]
 refine wpAnyH_ready (rs := [12]) (by kernel_rfl) (by simp) (AllReadyH.cons rfl (fun K hK => ?_) AllReadyH.nil)
 rw [if_pos (by kernel_rfl)]
 try go_simp
 refine (copy_bytes lc ZS _ w.heap.size HLC.out (by rw [← HZS.out]; simp; omega)).mono ?_
 rintro e w5 ⟨l5, rfl, ho5, hb5⟩
 have HO := hide (Own8.more ho5 (show w.heap.size ≤ _ by have := hHeld.size; omega))
 clear ho5
 refine hK.out _ _ (hHeld.trans (hb5.mono hHeld.size)) (fun hHeld => ?_)
 clear hb5
 clear hK K
 try simp only [Act.put, s1_, s2_, s3_]
 refine take_e 4 (i := 13) (v := .int .i64 kk) rfl (by kernel_rfl) (Or.inl ⟨by kernel_rfl, fun w' hS => exec_assign _ rfl _ rfl⟩) hHeld ?_
 simp only [Act.put, s1_, s2_, s3_]
 refine take_e 5 (i := 14) (v := .int .i64 ss) rfl (by kernel_rfl) (Or.inl ⟨by kernel_rfl, fun w' hS => exec_assign _ rfl _ rfl⟩) hHeld ?_
 simp only [Act.put, s1_, s2_, s3_]
 refine take_e 6 (i := 15) (v := l5) rfl (by kernel_rfl) (Or.inl ⟨by kernel_rfl, fun w' hS => exec_assign _ rfl _ rfl⟩) hHeld ?_
 simp only [Act.put, s1_, s2_, s3_]
 refine wpAnyH_done (by kernel_rfl) ?_ _
 have hs5 := hHeld.size
 replace HB := hide (HB.out.below hHeld HB.out.lt)
 replace HZ := hide (HZ.out.below hHeld HZ.out.lt)
 replace HW := hide (HW.out.trans (hHeld.mono (by omega)))
 have H51 := hide (own_one HO.out l5 (by simp))
 clear hHeld HLC HIK HIN HIKK HIS HW9 HW16 HWK HWS e9 e16 ek es
 have hkd1 := hide (show 1 ≤ kd ∧ kd ≤ 9 from ⟨by rw [← HKD.out]; omega, by rw [← HKD.out]; omega⟩)
 by_cases k1 : kd = 1 ∨ kd = 2
 · have HC := hide (show rightF c = ⟨kd, c.key, c.fp, kk, nn, ss, []⟩ by rw [HRF.out, if_pos k1])
   rcases k1 with k1 | k1
   all_goals
    have q1 := hide k1
    subst k1
    go_wp2_with (first
     | (refine wpList_cap_int _ rfl _ rfl rfl HB.out _ rfl ?_)
     | (refine wpList_zero_key rfl rfl ?_; rw [HZ16.out])
     | (refine wpList_zero_hash rfl rfl ?_; rw [HZ32.out])
     | (refine wpList_cap_put _ _ rfl _ rfl rfl HB.out _ rfl _ rfl ?_; intro wp hbp hgp hsp; have HBold := HB; replace HB := hide hbp; replace HZ := hide (HZ.out.grown hgp (by intro h; injection h with h; omega)); replace HW := hide (HW.out.grown hgp (by omega) (by intro k hk; simp at hk; omega)); replace HO := hide (World.ownsRow.kept HO.out hgp (.inr (by rintro h; exact own_ne_blk HO.out HBold.out.blk (by decide) h.symm))); clear hbp hgp HBold)
     | (refine wpList_cap_putLit _ _ rfl rfl rfl HB.out (.slice none 0 0) rfl rfl [] ?_; intro wp hbp hgp hsp; have HBold := HB; replace HB := hide hbp; replace HZ := hide (HZ.out.grown hgp (by intro h; injection h with h; omega)); replace HW := hide (HW.out.grown hgp (by omega) (by intro k hk; simp at hk; omega)); replace HO := hide (World.ownsRow.kept HO.out hgp (.inr (by rintro h; exact own_ne_blk HO.out HBold.out.blk (by decide) h.symm))); clear hbp hgp HBold)
     | (refine wpList_cap_putLit _ _ rfl rfl rfl HB.out l5 rfl H51.out ZS ?_; intro wp hbp hgp hsp; have HBold := HB; replace HB := hide hbp; replace HZ := hide (HZ.out.grown hgp (by intro h; injection h with h; omega)); replace HW := hide (HW.out.grown hgp (by omega) (by intro k hk; simp at hk; omega)); replace HO := hide (World.ownsRow.kept HO.out hgp (.inr (by rintro h; exact own_ne_blk HO.out HBold.out.blk (by decide) h.symm))); clear hbp hgp HBold)
     | (refine wpList_cap_putKey _ _ rfl rfl rfl HB.out Z16 rfl HL16.out ?_; intro wp hbp hgp hsp; have HBold := HB; replace HB := hide hbp; replace HZ := hide (HZ.out.grown hgp (by intro h; injection h with h; omega)); replace HW := hide (HW.out.grown hgp (by omega) (by intro k hk; simp at hk; omega)); replace HO := hide (World.ownsRow.kept HO.out hgp (.inr (by rintro h; exact own_ne_blk HO.out HBold.out.blk (by decide) h.symm))); clear hbp hgp HBold)
     | (refine wpList_cap_putFp _ _ rfl rfl rfl HB.out Z32 rfl HL32.out ?_; intro wp hbp hgp hsp; have HBold := HB; replace HB := hide hbp; replace HZ := hide (HZ.out.grown hgp (by intro h; injection h with h; omega)); replace HW := hide (HW.out.grown hgp (by omega) (by intro k hk; simp at hk; omega)); replace HO := hide (World.ownsRow.kept HO.out hgp (.inr (by rintro h; exact own_ne_blk HO.out HBold.out.blk (by decide) h.symm))); clear hbp hgp HBold)
     | (refine wpList_cap_all _ rfl rfl rfl HB.out ?_)
     | (refine wpList_cap_putAll _ _ rfl rfl rfl HZ.out _ _ rfl HB.out.keyL HB.out.fpL HB.out.one ?_; intro wq hbq hgq hsq; have HR := hide hbq; replace HW := hide (HW.out.grown hgq (by omega) (by intro k hk; simp at hk; omega)); replace HO := hide (World.ownsRow.kept HO.out hgq (.inr (by rintro h; exact own_ne_blk HO.out HZ.out.blk (by decide) h.symm))); clear hbq hgq))
    refine bodyPost_ret (results_cell_row rfl _ _ (w.heap.size + 1) 28 _ (0, 0) _ rfl HR.out.blk Tryd.underlying28 rfl (by rw [List.size_toArray, cc_len _ HR.out.keyL HR.out.fpL]; exact size_cap)) rfl ?_
    exact ⟨.slice none 0 0, by rw [HC.out]; rfl, by rw [HC.out]; exact World.ownsRow_nil _ _ _ _, HW.out⟩
 · by_cases k3 : kd = 3
   · subst k3
     have HC := hide (show rightF c = ⟨3, Z16, Z32, 0, 0, 0, ZS⟩ by rw [HRF.out, if_neg k1, if_pos rfl])
     go_wp2_with (first
      | (refine wpList_cap_int _ rfl _ rfl rfl HB.out _ rfl ?_)
      | (refine wpList_zero_key rfl rfl ?_; rw [HZ16.out])
      | (refine wpList_zero_hash rfl rfl ?_; rw [HZ32.out])
      | (refine wpList_cap_put _ _ rfl _ rfl rfl HB.out _ rfl _ rfl ?_; intro wp hbp hgp hsp; have HBold := HB; replace HB := hide hbp; replace HZ := hide (HZ.out.grown hgp (by intro h; injection h with h; omega)); replace HW := hide (HW.out.grown hgp (by omega) (by intro k hk; simp at hk; omega)); replace HO := hide (World.ownsRow.kept HO.out hgp (.inr (by rintro h; exact own_ne_blk HO.out HBold.out.blk (by decide) h.symm))); clear hbp hgp HBold)
      | (refine wpList_cap_putLit _ _ rfl rfl rfl HB.out (.slice none 0 0) rfl rfl [] ?_; intro wp hbp hgp hsp; have HBold := HB; replace HB := hide hbp; replace HZ := hide (HZ.out.grown hgp (by intro h; injection h with h; omega)); replace HW := hide (HW.out.grown hgp (by omega) (by intro k hk; simp at hk; omega)); replace HO := hide (World.ownsRow.kept HO.out hgp (.inr (by rintro h; exact own_ne_blk HO.out HBold.out.blk (by decide) h.symm))); clear hbp hgp HBold)
      | (refine wpList_cap_putLit _ _ rfl rfl rfl HB.out l5 rfl H51.out ZS ?_; intro wp hbp hgp hsp; have HBold := HB; replace HB := hide hbp; replace HZ := hide (HZ.out.grown hgp (by intro h; injection h with h; omega)); replace HW := hide (HW.out.grown hgp (by omega) (by intro k hk; simp at hk; omega)); replace HO := hide (World.ownsRow.kept HO.out hgp (.inr (by rintro h; exact own_ne_blk HO.out HBold.out.blk (by decide) h.symm))); clear hbp hgp HBold)
      | (refine wpList_cap_putKey _ _ rfl rfl rfl HB.out Z16 rfl HL16.out ?_; intro wp hbp hgp hsp; have HBold := HB; replace HB := hide hbp; replace HZ := hide (HZ.out.grown hgp (by intro h; injection h with h; omega)); replace HW := hide (HW.out.grown hgp (by omega) (by intro k hk; simp at hk; omega)); replace HO := hide (World.ownsRow.kept HO.out hgp (.inr (by rintro h; exact own_ne_blk HO.out HBold.out.blk (by decide) h.symm))); clear hbp hgp HBold)
      | (refine wpList_cap_putFp _ _ rfl rfl rfl HB.out Z32 rfl HL32.out ?_; intro wp hbp hgp hsp; have HBold := HB; replace HB := hide hbp; replace HZ := hide (HZ.out.grown hgp (by intro h; injection h with h; omega)); replace HW := hide (HW.out.grown hgp (by omega) (by intro k hk; simp at hk; omega)); replace HO := hide (World.ownsRow.kept HO.out hgp (.inr (by rintro h; exact own_ne_blk HO.out HBold.out.blk (by decide) h.symm))); clear hbp hgp HBold)
      | (refine wpList_cap_all _ rfl rfl rfl HB.out ?_)
      | (refine wpList_cap_putAll _ _ rfl rfl rfl HZ.out _ _ rfl HB.out.keyL HB.out.fpL HB.out.one ?_; intro wq hbq hgq hsq; have HR := hide hbq; replace HW := hide (HW.out.grown hgq (by omega) (by intro k hk; simp at hk; omega)); replace HO := hide (World.ownsRow.kept HO.out hgq (.inr (by rintro h; exact own_ne_blk HO.out HZ.out.blk (by decide) h.symm))); clear hbq hgq))
     refine bodyPost_ret (results_cell_row rfl _ _ (w.heap.size + 1) 28 _ (0, 0) _ rfl HR.out.blk Tryd.underlying28 rfl (by rw [List.size_toArray, cc_len _ HR.out.keyL HR.out.fpL]; exact size_cap)) rfl ?_
     exact ⟨l5, by rw [HC.out]; rfl, by rw [HC.out]; exact HO.out, HW.out⟩
   · have HC := hide (show rightF c = ⟨kd, c.key, c.fp, 0, 0, 0, []⟩ by rw [HRF.out, if_neg k1, if_neg k3])
     have n1 : (kd == 1) = false := by rw [beq_eq_false_iff_ne]; omega
     have n2 : (kd == 2) = false := by rw [beq_eq_false_iff_ne]; omega
     have n3 : (kd == 3) = false := by rw [beq_eq_false_iff_ne]; omega
     go_wp2_with (first
      | (refine wpList_cap_int _ rfl _ rfl rfl HB.out _ rfl ?_)
      | (refine wpList_zero_key rfl rfl ?_; rw [HZ16.out])
      | (refine wpList_zero_hash rfl rfl ?_; rw [HZ32.out])
      | (refine wpList_cap_put _ _ rfl _ rfl rfl HB.out _ rfl _ rfl ?_; intro wp hbp hgp hsp; have HBold := HB; replace HB := hide hbp; replace HZ := hide (HZ.out.grown hgp (by intro h; injection h with h; omega)); replace HW := hide (HW.out.grown hgp (by omega) (by intro k hk; simp at hk; omega)); replace HO := hide (World.ownsRow.kept HO.out hgp (.inr (by rintro h; exact own_ne_blk HO.out HBold.out.blk (by decide) h.symm))); clear hbp hgp HBold)
      | (refine wpList_cap_putLit _ _ rfl rfl rfl HB.out (.slice none 0 0) rfl rfl [] ?_; intro wp hbp hgp hsp; have HBold := HB; replace HB := hide hbp; replace HZ := hide (HZ.out.grown hgp (by intro h; injection h with h; omega)); replace HW := hide (HW.out.grown hgp (by omega) (by intro k hk; simp at hk; omega)); replace HO := hide (World.ownsRow.kept HO.out hgp (.inr (by rintro h; exact own_ne_blk HO.out HBold.out.blk (by decide) h.symm))); clear hbp hgp HBold)
      | (refine wpList_cap_putLit _ _ rfl rfl rfl HB.out l5 rfl H51.out ZS ?_; intro wp hbp hgp hsp; have HBold := HB; replace HB := hide hbp; replace HZ := hide (HZ.out.grown hgp (by intro h; injection h with h; omega)); replace HW := hide (HW.out.grown hgp (by omega) (by intro k hk; simp at hk; omega)); replace HO := hide (World.ownsRow.kept HO.out hgp (.inr (by rintro h; exact own_ne_blk HO.out HBold.out.blk (by decide) h.symm))); clear hbp hgp HBold)
      | (refine wpList_cap_putKey _ _ rfl rfl rfl HB.out Z16 rfl HL16.out ?_; intro wp hbp hgp hsp; have HBold := HB; replace HB := hide hbp; replace HZ := hide (HZ.out.grown hgp (by intro h; injection h with h; omega)); replace HW := hide (HW.out.grown hgp (by omega) (by intro k hk; simp at hk; omega)); replace HO := hide (World.ownsRow.kept HO.out hgp (.inr (by rintro h; exact own_ne_blk HO.out HBold.out.blk (by decide) h.symm))); clear hbp hgp HBold)
      | (refine wpList_cap_putFp _ _ rfl rfl rfl HB.out Z32 rfl HL32.out ?_; intro wp hbp hgp hsp; have HBold := HB; replace HB := hide hbp; replace HZ := hide (HZ.out.grown hgp (by intro h; injection h with h; omega)); replace HW := hide (HW.out.grown hgp (by omega) (by intro k hk; simp at hk; omega)); replace HO := hide (World.ownsRow.kept HO.out hgp (.inr (by rintro h; exact own_ne_blk HO.out HBold.out.blk (by decide) h.symm))); clear hbp hgp HBold)
      | (refine wpList_cap_all _ rfl rfl rfl HB.out ?_)
      | (refine wpList_cap_putAll _ _ rfl rfl rfl HZ.out _ _ rfl HB.out.keyL HB.out.fpL HB.out.one ?_; intro wq hbq hgq hsq; have HR := hide hbq; replace HW := hide (HW.out.grown hgq (by omega) (by intro k hk; simp at hk; omega)); replace HO := hide (World.ownsRow.kept HO.out hgq (.inr (by rintro h; exact own_ne_blk HO.out HZ.out.blk (by decide) h.symm))); clear hbq hgq))
     refine bodyPost_ret (results_cell_row rfl _ _ (w.heap.size + 1) 28 _ (0, 0) _ rfl HR.out.blk Tryd.underlying28 rfl (by rw [List.size_toArray, cc_len _ HR.out.keyL HR.out.fpL]; exact size_cap)) rfl ?_
     exact ⟨.slice none 0 0, by rw [HC.out]; rfl, by rw [HC.out]; exact World.ownsRow_nil _ _ _ _, HW.out⟩
end Go.Proofs.YthdjgebbjogmiaaDoor
