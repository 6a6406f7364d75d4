/- P3.2: streamed twice bytes are themselves; in pieces they are what they are at once. No condition. -/
import Derived.Test.YtoicohcomjnnfaaFrameArr
import Derived.Test.YtoicohcomjnnfaaFrameBytes
import Derived.Test.YtoicohcomjnnfaaWakes03
import Derived.Test.YtoicohcomjnnfaaStream
import Derived.Test.YtoicohcomjnnfaaStreamLaw2
import Derived.Test.YtoicohcomjnnfaaKeep
import Derived.Test.YtoicohcomjnnfaaSmall
namespace Go.Proofs.Ytoicohcomjnnfaa.LawAesTwice
open Go Go.RowKit Go.ChangeShapes Go.WideShapes Go.ChangeAt Go.Proofs.Ytoicohcomjnnfaa
set_option linter.unusedVariables false

set_option maxHeartbeats 4000000 in
theorem walk (w : World) (key : List Int) (hk : key.length = 16) (bk : Bytes key) (at_ : Int) (hat : In64 at_) (cut : Int) (hcut : In64 cut) (v : Value) (b : List Int) (hv : Bs w w.heap.size v b) (hb : Bytes b) :
    Calls Try.prog 12 #[.agg (u8s key).toArray, .int .i64 at_, .int .i64 cut, v] w fun e w' => e = .returned (.bool true) ∧ Below w.heap.size w w' := by
  have HC0 := fun (at_ : Int) (b : List Int) (v : Value) (w : World) => Stream_any key b at_ v w hk bk
  have HT := hide tab_bytes
  obtain ⟨T, HTT⟩ : ∃ T, Hid (boxTab = T) := ⟨_, hide rfl⟩
  have HKL := hide (ExpandF_len hk bk)
  have HKB := hide (ExpandF_bytes hk bk)
  obtain ⟨ks, HKS⟩ : ∃ T, Hid (ExpandF key = T) := ⟨_, hide rfl⟩
  rw [HTT.out] at HT HC0
  rw [HKS.out] at HKL HKB HC0
  have HC := hide HC0
  have HIK := hide (show (Try.prog.info? 43).map (·.size) = some (u8s key).length by rw [u8s_len, hk]; kernel_rfl)
  have HV := hide hv
  have HCUT := hide (cut_bytes v b 200 (w.alloc (.cells (u8s key).toArray 43)) w.heap.size (hv.below ((Below.refl _ _).alloc (Nat.le_refl _) _) (Nat.le_refl _)) (by omega) (by omega))
  have HBB := hide hb
  obtain ⟨ha1, ha2⟩ := hat
  obtain ⟨hc1, hc2⟩ := hcut
  clear hk bk hv hb HC0 HTT HKS
  go_enter Try.func12, Try.ntmps12
  go_wp2_with fail
  refine HCUT.out.mono ?_
  rintro e w' ⟨v1, rfl, hv1, rfl⟩
  obtain ⟨wb, HW⟩ : ∃ wb, Hid (w.alloc (.cells (u8s key).toArray 43) = wb) := ⟨_, hide rfl⟩
  have B1 := hide (show Blk wb w.heap.size 43 (u8s key) by rw [← HW.out]; exact Blk.new w 43 (u8s key))
  have HB := hide (show Below w.heap.size w wb by rw [← HW.out]; exact (Below.refl w.heap.size w).alloc (Nat.le_refl _) _)
  rw [HW.out] at hv1
  rw [HW.out]
  clear HW HCUT
  have HBC := hide (show Bytes (b.take (200 : Int).toNat) from fun x hx => HBB.out x (List.mem_of_mem_take hx))
  have hlen : (b.take (200 : Int).toNat).length ≤ 200 := by rw [List.length_take]; exact Nat.min_le_left _ _
  generalize b.take (200 : Int).toNat = c at hv1 HBC hlen
  have HV1 := hide hv1
  obtain ⟨A, cp, rfl, hc1', hc2', hcs⟩ := hv1.open_
  unfold maxLen at hc2'
  obtain ⟨N, HN⟩ : ∃ n, Hid (c.length = n) := ⟨_, hide rfl⟩
  rw [HN.out] at hlen hc1' HV1
  rw [HN.out]
  clear hcs hv1 HBB HV
  go_wp2_with fail
  refine (within_any at_ 1000 _ ha1 ha2 (by omega)).mono ?_
  rintro e w' ⟨rfl, rfl⟩
  obtain ⟨a, ea⟩ : ∃ a : Nat, within at_ 1000 = (a : Int) ∧ a < 1000 := by
    unfold within; rw [if_neg (by omega)]
    exact ⟨(at_ % 1000).toNat, by omega, by omega⟩
  obtain ⟨ea, ha⟩ := ea
  rw [ea]
  clear ea
  go_wp2_with fail
  refine (within_any cut (N + 1) _ hc1 hc2 (by omega)).mono ?_
  rintro e w' ⟨rfl, rfl⟩
  obtain ⟨n, en⟩ : ∃ n : Nat, within cut (N + 1) = (n : Int) ∧ n ≤ N := by
    unfold within; rw [if_neg (by omega)]
    have h1 := Int.emod_nonneg cut (show (N : Int) + 1 ≠ 0 by omega)
    have h2 := Int.emod_lt_of_pos cut (show (0 : Int) < N + 1 by omega)
    exact ⟨(cut % (N + 1)).toNat, by omega, by omega⟩
  obtain ⟨en, hn⟩ := en
  rw [en]
  clear en
  go_wp2_with (refine wpList_load_blk rfl 43 _ rfl _ rfl _ _ B1.out 16 5 rfl HIK.out ?_)
  have hwb := B1.out.lt
  refine (HC.out a c (.slice A N cp) wb ⟨by omega, by omega⟩ (HV1.out.more (by omega)) (by rw [HN.out]; omega) HBC.out).mono ?_
  rintro e w1 ⟨v2, rfl, ho2, hb1⟩
  rw [atF_of a (by omega)] at ho2
  have hs1 := hb1.size
  have B1' := hide (B1.out.below hb1 hwb)
  have HB1 := hide (HB.out.trans (hb1.mono HB.out.size))
  have HV2 := hide (HV1.out.below hb1 (by omega))
  have HO2 := hide ho2
  clear ho2 hb1 B1 HB HV1
  obtain ⟨A2, cp2, rfl⟩ := own_shape HO2.out
  go_wp2_with fail
  have hwb1 : w.heap.size < w1.heap.size := by omega
  have i0 : (0 : Int) ≤ (n : Int) := by omega
  have i1 : (n : Int) ≤ (cp : Int) := by omega
  have i2 : (n : Int) ≤ (N : Int) := by omega
  have i3 : (N : Int) ≤ (cp : Int) := by omega
  have w3 : IntKind.i64.wrap ((a : Int) + (n : Int)) = (a : Int) + (n : Int) := IntWalk.i64_in _ (by omega)
  have HS1 := hide (HV2.out.sliced 0 n (by omega) (by rw [HN.out]; exact hn))
  have HS2 := hide (HV2.out.sliced n N hn (by rw [HN.out]; exact Nat.le_refl _))
  obtain ⟨S1, HE1⟩ : ∃ S, Hid (sliced A 0 n cp 1 = S) := ⟨_, hide rfl⟩
  obtain ⟨S2, HE2⟩ : ∃ S, Hid (sliced A n N cp 1 = S) := ⟨_, hide rfl⟩
  rw [HE1.out, List.drop_zero, Nat.sub_zero] at HS1
  rw [HE2.out, List.take_of_length_le (by rw [List.length_drop, HN.out]; exact Nat.le_refl _)] at HS2
  have HL1 := hide (show (c.take n).length = n by rw [List.length_take, HN.out]; omega)
  have HL2 := hide (show (c.drop n).length = N - n by rw [List.length_drop, HN.out])
  have HBC1 := hide (show Bytes (c.take n) from fun x hx => HBC.out x (List.mem_of_mem_take hx))
  have HBC2 := hide (show Bytes (c.drop n) from fun x hx => HBC.out x (List.mem_of_mem_drop hx))
  have HSP := hide (stream_split T ks a c n (by rw [HN.out]; exact hn))
  obtain ⟨c1, HC1⟩ : ∃ x, Hid (c.take n = x) := ⟨_, hide rfl⟩
  obtain ⟨c2, HC2⟩ : ∃ x, Hid (c.drop n = x) := ⟨_, hide rfl⟩
  rw [HC1.out] at HS1 HL1 HBC1 HSP
  rw [HC2.out] at HS2 HL2 HBC2 HSP
  have HP1 := hide (show (streamF T ks a c1).length = n by rw [streamF_len]; exact HL1.out)
  have HP2 := hide (show (streamF T ks (a + n) c2).length = N - n by rw [streamF_len]; exact HL2.out)
  have HAN := hide (show atF ((a : Int) + (n : Int)) = a + n by have := atF_of (a + n) (by omega); simpa using this)
  have HA0 := hide (atF_of a (by omega))
  refine wp_region_held_drew (S := fun w' => Below w1.heap.size w1 w') (by kernel_rfl) (Below.refl _ _).drew (fun hHeld => ?_)
  refine wpAnyH_take (i := 0) (v := .agg (u8s key).toArray) rfl (by kernel_rfl) (by kernel_rfl) (by kernel_rfl) (fun _ _ _ h => h) (yieldsIf_load_mid (by rfl) 43 _ rfl w.heap.size 0 rfl (u8s key) _ (fun w' hS => blk_range (B1'.out.below hS hwb1) 0 _ (fun j u h => by simpa using h)) rfl rfl HIK.out) hHeld ?_
  refine wpAnyH_take (i := 1) (v := .int .i64 (a : Int)) rfl (by kernel_rfl) (by kernel_rfl) (by kernel_rfl) (fun _ _ _ h => h) (Or.inl ⟨by rfl, fun w' hS => by go_simp⟩) hHeld ?_
  refine wpAnyH_take (i := 2) (v := .slice A N cp) rfl (by kernel_rfl) (by kernel_rfl) (by kernel_rfl) (fun _ _ _ h => h) (Or.inl ⟨by rfl, fun w' hS => by go_simp⟩) hHeld ?_
  refine wpAnyH_take (i := 3) (v := .int .i64 (n : Int)) rfl (by kernel_rfl) (by kernel_rfl) (by kernel_rfl) (fun _ _ _ h => h) (Or.inl ⟨by rfl, fun w' hS => by go_simp⟩) hHeld ?_
  refine wpAnyH_take (i := 4) (v := S1) rfl (by kernel_rfl) (by kernel_rfl) (by kernel_rfl) (fun _ _ _ h => h) (Or.inl ⟨by rfl, fun w' hS => by rw [← HE1.out]; go_simp⟩) hHeld ?_
  refine wpAnyH_take (i := 7) (v := .agg (u8s key).toArray) rfl (by kernel_rfl) (by kernel_rfl) (by kernel_rfl) (fun _ _ _ h => h) (yieldsIf_load_mid (by rfl) 43 _ rfl w.heap.size 0 rfl (u8s key) _ (fun w' hS => blk_range (B1'.out.below hS hwb1) 0 _ (fun j u h => by simpa using h)) rfl rfl HIK.out) hHeld ?_
  refine wpAnyH_take (i := 8) (v := .int .i64 (a : Int)) rfl (by kernel_rfl) (by kernel_rfl) (by kernel_rfl) (fun _ _ _ h => h) (Or.inl ⟨by rfl, fun w' hS => by go_simp⟩) hHeld ?_
  refine wpAnyH_take (i := 9) (v := .int .i64 (n : Int)) rfl (by kernel_rfl) (by kernel_rfl) (by kernel_rfl) (fun _ _ _ h => h) (Or.inl ⟨by rfl, fun w' hS => by go_simp⟩) hHeld ?_
  refine wpAnyH_take (i := 10) (v := .int .i64 ((a : Int) + (n : Int))) rfl (by kernel_rfl) (by kernel_rfl) (by kernel_rfl) (fun _ _ _ h => h) (Or.inl ⟨by rfl, fun w' hS => by go_simp⟩) hHeld ?_
  refine wpAnyH_take (i := 11) (v := .slice A N cp) rfl (by kernel_rfl) (by kernel_rfl) (by kernel_rfl) (fun _ _ _ h => h) (Or.inl ⟨by rfl, fun w' hS => by go_simp⟩) hHeld ?_
  refine wpAnyH_take (i := 12) (v := .int .i64 (n : Int)) rfl (by kernel_rfl) (by kernel_rfl) (by kernel_rfl) (fun _ _ _ h => h) (Or.inl ⟨by rfl, fun w' hS => by go_simp⟩) hHeld ?_
  refine wpAnyH_take (i := 13) (v := S2) rfl (by kernel_rfl) (by kernel_rfl) (by kernel_rfl) (fun _ _ _ h => h) (Or.inl ⟨by rfl, fun w' hS => by rw [← HE2.out]; go_simp⟩) hHeld ?_
  refine wpAnyH_ready (rs := [5]) (by kernel_rfl) (by simp) (AllReadyH.cons rfl (fun K hK => ?_) AllReadyH.nil)
  rw [if_pos (by rfl)]
  go_simp
  refine (HC.out a c1 S1 _ ⟨by omega, by omega⟩ ((HS1.out.below hHeld (by omega)).more (by have := hHeld.size; omega)) (by rw [HL1.out]; omega) HBC1.out).mono ?_
  rintro e w2 ⟨v30, rfl, ho30, hb2⟩
  rw [HA0.out] at ho30
  have HO30 := hide ho30
  go_simp
  refine hK.out _ _ (hHeld.trans (hb2.mono hHeld.size)) (fun hHeld => ?_)
  clear ho30 hb2
  clear hK K
  try simp only [Act.put, List.setIfInBounds_toArray, List.set_cons_zero, List.set_cons_succ]
  refine wpAnyH_ready (rs := [6]) (by kernel_rfl) (by simp) (AllReadyH.cons rfl (fun K hK => ?_) AllReadyH.nil)
  rw [if_pos (by rfl)]
  go_simp
  refine (copy_bytes v30 _ w2 _ HO30.out.reads (by rw [HP1.out]; omega)).mono ?_
  rintro e w3' ⟨v31, rfl, ho31, hb3⟩
  have HO31 := hide (ho31.more hHeld.size)
  go_simp
  refine hK.out _ _ (hHeld.trans (hb3.mono hHeld.size)) (fun hHeld => ?_)
  clear ho31 hb3 HO30
  clear hK K
  try simp only [Act.put, List.setIfInBounds_toArray, List.set_cons_zero, List.set_cons_succ]
  refine wpAnyH_ready (rs := [14]) (by kernel_rfl) (by simp) (AllReadyH.cons rfl (fun K hK => ?_) AllReadyH.nil)
  rw [if_pos (by rfl)]
  go_simp
  refine (HC.out ((a : Int) + (n : Int)) c2 S2 _ ⟨by omega, by omega⟩ ((HS2.out.below hHeld (by omega)).more (by have := hHeld.size; omega)) (by rw [HL2.out]; omega) HBC2.out).mono ?_
  rintro e w4 ⟨v39, rfl, ho39, hb4⟩
  rw [HAN.out] at ho39
  have HO39 := hide ho39
  have HO31' := hide (HO31.out.keptB hb4)
  go_simp
  refine hK.out _ _ (hHeld.trans (hb4.mono hHeld.size)) (fun hHeld => ?_)
  clear ho39 hb4 HO31
  clear hK K
  try simp only [Act.put, List.setIfInBounds_toArray, List.set_cons_zero, List.set_cons_succ]
  refine wpAnyH_ready (rs := [15]) (by kernel_rfl) (by simp) (AllReadyH.cons rfl (fun K hK => ?_) AllReadyH.nil)
  rw [if_pos (by rfl)]
  refine wp_append_rdD _ 40 rfl _ _ _ rfl w1.heap.size _ _ _ el_u8 _ _ _ rfl HO31'.out w4.heap.size _ _ _ rfl HO39.out.reads (u8s_one _) (by rw [HP1.out, HP2.out]; omega) hHeld.size ?_
  intro v40 w5 ho40 hg5 _
  have HO40 := hide (show Own8 w5 w1.heap.size v40 (streamF T ks a c) by
    rw [u8s_app, HSP.out] at ho40
    have e : (streamF T ks a c1).length + (streamF T ks (a + n) c2).length = (streamF T ks a c).length := by rw [HP1.out, HP2.out, streamF_len, HN.out]; omega
    rw [e] at ho40
    exact ho40)
  refine hK.out _ _ (hHeld.grown hg5 hHeld.size (own_base HO31'.out)) (fun hHeld => ?_)
  clear ho40 hg5
  clear hK K
  try simp only [Act.put, List.setIfInBounds_toArray, List.set_cons_zero, List.set_cons_succ]
  refine wpAnyH_take (i := 16) (v := v40) rfl (by kernel_rfl) (by kernel_rfl) (by kernel_rfl) (fun _ _ _ h => h) (Or.inl ⟨by rfl, fun w' hS => by go_simp⟩) hHeld ?_
  refine wpAnyH_done (by kernel_rfl) ?_ _
  have hs5 := hHeld.size
  have HV5 := hide (HV2.out.below hHeld (by omega))
  have HB5 := hide (HB1.out.trans (hHeld.mono (by omega)))
  have B5 := hide (B1'.out.below hHeld hwb1)
  have HO5 := hide (show Own8 w5 wb.heap.size (.slice A2 (streamF T ks a c).length cp2) (streamF T ks a c) from own_keptB HO2.out hHeld)
  clear hHeld w3 HSP HE1 HE2 HS1 HS2 HC1 HC2 HAN HA0
  have HTW := hide (stream_twice HT.out.2 HKL.out HKB.out a HBC.out)
  have HLA := hide (show (streamF T ks a c).length = N by rw [streamF_len, HN.out])
  have HBA := hide (streamF_bytes HT.out.2 HKL.out HKB.out a HBC.out)
  obtain ⟨d, HD⟩ : ∃ d, Hid (streamF T ks a c = d) := ⟨_, hide rfl⟩
  rw [HD.out] at HO5 HO40 HLA HTW HBA
  rw [HD.out]
  obtain ⟨A40, cp40, rfl⟩ := own_shape HO40.out
  go_wp2_with (refine wpList_load_blk rfl 43 _ rfl _ rfl _ _ B5.out 16 5 rfl HIK.out ?_)
  refine (HC.out a d _ w5 ⟨by omega, by omega⟩ HO5.out.reads (by rw [HLA.out]; omega) HBA.out).mono ?_
  rintro e w6 ⟨v44, rfl, ho44, hb6⟩
  rw [atF_of a (by omega), HTW.out] at ho44
  have HO44 := hide ho44
  have hs6 := hb6.size
  have HV6 := hide (HV5.out.below hb6 (by omega))
  have HO6 := hide (HO5.out.keptB hb6)
  have HO46 := hide (HO40.out.keptB hb6)
  have HB6 := hide (HB5.out.trans (hb6.mono HB5.out.size))
  clear ho44 hb6
  go_wp2_with fail
  refine (same_bytes _ _ c c w6 w6.heap.size HO44.out.reads (HV6.out.more (by omega)) (Nat.le_refl _)).mono ?_
  rintro e w7 ⟨rfl, hb7⟩
  rw [decide_eq_true rfl]
  have hs7 := hb7.size
  have HO7 := hide (HO6.out.keptB hb7)
  have HO47 := hide (HO46.out.keptB hb7)
  have HB7 := hide (HB6.out.trans (hb7.mono HB6.out.size))
  clear hb7
  go_wp2_with fail
  refine (same_bytes _ _ d d w7 w7.heap.size HO47.out.reads HO7.out.reads (Nat.le_refl _)).mono ?_
  rintro e w8 ⟨rfl, hb8⟩
  rw [decide_eq_true rfl]
  have HB8 := hide (HB7.out.trans (hb8.mono HB7.out.size))
  clear hb8
  go_wp2_with fail
  refine (wakes03 _).mono ?_
  rintro e w9 ⟨rfl, hb9⟩
  have HB9 := hide (HB8.out.trans (hb9.mono HB8.out.size))
  clear hb9
  go_wp2_with fail
  go_ret
  exact ⟨rfl, HB9.out⟩

set_option maxRecDepth 100000 in
theorem lifted (os : Os) (started : os.Started) (H : Type) (enc : TypeId × Value → H) :
    ReturnsInHanded {} Try.checked os 12 .any (Rows.aesTwiceSpec.pre6 enc Try.prog Try.f12 Rows.aesTwiceRow.domain false) (Rows.aesTwiceSpec.post enc Try.prog Try.f12 false true false false) := by
  refine returnsInHanded_of_change (C := Try.checked) own started (by kernel_rfl) Try.func12
    (ChangeSpec.witness6 (enc := enc) (C := Try.checked) false ⟨#[], #[.agg #[.int .u8 0, .int .u8 0, .int .u8 0, .int .u8 0, .int .u8 0, .int .u8 0, .int .u8 0, .int .u8 0, .int .u8 0, .int .u8 0, .int .u8 0, .int .u8 0, .int .u8 0, .int .u8 0, .int .u8 0, .int .u8 0], .int .i64 0, .int .i64 0, .slice none 0 0], []⟩ 8 (by kernel_rfl) (by kernel_rfl) (by kernel_rfl) (by kernel_rfl)) ?_
  intro W base args ds gs before hval0 hW hcnd _
  have hval : ∀ (j : Nat) t v, Try.f12.params[j]? = some t → args[j]? = some v → Value.okWide Try.prog W .any base t v := hval0
  have hW' := hW
  obtain ⟨p, q, hA0, hV, rfl, hfz, hnd⟩ := hW
  have hA : DataW.TrodAll enc Try.prog W 0 (fun _ => true) true Try.f12.params.toList args.toList ds p := hA0
  rw [Try.params12] at hA hval
  obtain ⟨v0, vs0, d0, ds0, p0, q0, hargs, rfl, rfl, h0, r0⟩ := trodAll_cons hA
  obtain ⟨v1, vs1, d1, ds1, p1, q1, rfl, rfl, rfl, h1, r1⟩ := trodAll_cons r0
  obtain ⟨v2, vs2, d2, ds2, p2, q2, rfl, rfl, rfl, h2, r2⟩ := trodAll_cons r1
  obtain ⟨v3, vs3, d3, ds3, p3, q3, rfl, rfl, rfl, h3, r3⟩ := trodAll_cons r2
  obtain ⟨rfl, rfl, rfl⟩ := trodAll_nil r3
  obtain rfl : args = #[v0, v1, v2, v3] := by cases args; simp_all
  obtain ⟨rfl, rfl⟩ := trodVars_none hV
  have k0 := h0
  have lt0 : ∀ x ∈ p0, x.block < W.heap.size := by obtain ⟨m, hm⟩ := k0; exact DataW.trod_lt m _ _ _ hm
  obtain ⟨z0, rfl, w0, b0⟩ := read_arr16_key (hval 0 43 v0 rfl rfl) h0
  obtain ⟨a1, rfl, rfl, rfl, wf1⟩ := open_int Try.underlying3 (hval 1 3 v1 rfl rfl) h1
  obtain ⟨a2, rfl, rfl, rfl, wf2⟩ := open_int Try.underlying3 (hval 2 3 v2 rfl rfl) h2
  obtain ⟨s3, len3, cap3, rfl⟩ := okWide_slice Try.underlying49 (hval 3 49 v3 rfl rfl)
  have k3 := h3
  have lt3 : ∀ x ∈ p3, x.block < W.heap.size := by obtain ⟨m, hm⟩ := k3; exact DataW.trod_lt m _ _ _ hm
  obtain ⟨z3, w3, b3⟩ := read_bytes h3
  clear hA0 hval0
  refine (walk W z0 w0 b0 a1 (in64_wf wf1) a2 (in64_wf wf2) _ z3 w3 b3).mono fun e W' ⟨he, bel⟩ => ?_
  subst he
  exact ⟨_, rfl, _, _, _, [], _, [], hW', trodAll_mk1 (shut_bool Try.underlying4 _), (trodAll_cons_mk (Below.trod laidOut (by kernel_rfl) (of_decide_eq_true (by kernel_rfl)) k0 bel lt0) (trodAll_cons_mk (shut_int Try.underlying3 wf1) (trodAll_cons_mk (shut_int Try.underlying3 wf2) (trodAll_cons_mk (Below.trod laidOut (by kernel_rfl) (of_decide_eq_true (by kernel_rfl)) k3 bel lt3) trodAll_mk0)))), rfl, bel.frame _, fun h => by cases h⟩

theorem over : Rows.aesTwiceRow.holds Try.pinned (OpenSpec.ofChange Rows.aesTwiceSpec) :=
  OpenClaim.holds_of_wide 12 Try.f12 rfl rfl rfl rfl rfl rfl rfl ⟨rfl, rfl, rfl, rfl, rfl⟩ rfl rfl rfl rfl rfl (by kernel_rfl) Try.func12 (by kernel_rfl)
    (of_decide_eq_true (by kernel_rfl)) (by unfold Func.isWrapper; rw [if_neg (of_decide_eq_false (by kernel_rfl))]; exact ⟨rfl, rfl⟩)
    (fun os started H enc _ => lifted os started H enc)

theorem proved : Rows.AesTwiceSaid := over
end Go.Proofs.Ytoicohcomjnnfaa.LawAesTwice
