/- P3.1: any bytes with a key's stream, from any place on: the program's and the reference's; the bytes lent are left alone. No condition. -/
import Derived.Test.YtoicohcomjnnfaaFrameArr
import Derived.Test.YtoicohcomjnnfaaFrameBytes
import Derived.Test.YtoicohcomjnnfaaWakes03
import Derived.Test.YtoicohcomjnnfaaStream
import Derived.Test.YtoicohcomjnnfaaStreamLaw2
import Derived.Test.YtoicohcomjnnfaaRefStream
import Derived.Test.YtoicohcomjnnfaaKeep
import Derived.Test.YtoicohcomjnnfaaLend
import Derived.Test.YtoicohcomjnnfaaSpoil
import Derived.Test.YtoicohcomjnnfaaIntact
import Derived.Test.YtoicohcomjnnfaaSmall
namespace Go.Proofs.Ytoicohcomjnnfaa.LawAesStreams
open Go Go.RowKit Go.ChangeShapes Go.WideShapes Go.ChangeAt Go.Proofs.Ytoicohcomjnnfaa
set_option linter.unusedVariables false

set_option maxHeartbeats 4000000 in
theorem walk (w : World) (key : List Int) (hk : key.length = 16) (bk : Bytes key) (at_ : Int) (hat : In64 at_) (v : Value) (b : List Int) (hv : Bs w w.heap.size v b) (hb : Bytes b) :
    Calls Try.prog 11 #[.agg (u8s key).toArray, .int .i64 at_, v] w fun e w' => e = .returned (.bool true) ∧ Below w.heap.size w w' := by
  have HC0 := fun (b : List Int) (v : Value) (w : World) => Stream_blk key b at_ v w hk bk
  have HR0 := fun (b : List Int) (v : Value) (w : World) => Stream_ref key b at_ v w hk bk
  have HT := hide tab_bytes
  obtain ⟨T, HTT⟩ : ∃ T, Hid (boxTab = T) := ⟨_, hide rfl⟩
  have HKL := hide (ExpandF_len hk bk)
  have HKB := hide (ExpandF_bytes hk bk)
  obtain ⟨ks, HKS⟩ : ∃ T, Hid (ExpandF key = T) := ⟨_, hide rfl⟩
  obtain ⟨n, HAT⟩ : ∃ T, Hid (atF at_ = T) := ⟨_, hide rfl⟩
  rw [HTT.out] at HT HC0 HR0
  rw [HKS.out] at HKL HKB HC0 HR0
  rw [HAT.out] at HC0 HR0
  have HC := hide HC0
  have HR := hide HR0
  have HIK := hide (show (Try.prog.info? 43).map (·.size) = some (u8s key).length by rw [u8s_len, hk]; kernel_rfl)
  have HCUT := hide (cut_bytes v b 200 (w.alloc (.cells (u8s key).toArray 43)) w.heap.size (hv.below ((Below.refl _ _).alloc (Nat.le_refl _) _) (Nat.le_refl _)) (by omega) (by omega))
  have HBB := hide hb
  obtain ⟨ha1, ha2⟩ := hat
  clear hk bk hv hb HC0 HR0 HTT HKS HAT
  go_enter Try.func11, Try.ntmps11
  go_wp2_with fail
  refine HCUT.out.mono ?_
  rintro e w' ⟨v1, rfl, hv1, rfl⟩
  obtain ⟨wb, HW⟩ : ∃ wb, Hid (w.alloc (.cells (u8s key).toArray 43) = wb) := ⟨_, hide rfl⟩
  have B1 := hide (show Blk wb w.heap.size 43 (u8s key) by rw [← HW.out]; exact Blk.new w 43 (u8s key))
  have HB := hide (show Below w.heap.size w wb by rw [← HW.out]; exact (Below.refl w.heap.size w).alloc (Nat.le_refl _) _)
  rw [HW.out] at hv1
  rw [HW.out]
  clear HW HCUT
  have HBC := hide (show Bytes (b.take (200 : Int).toNat) from fun x hx => HBB.out x (List.mem_of_mem_take hx))
  have hlen : (b.take (200 : Int).toNat).length ≤ 200 := by rw [List.length_take]; exact Nat.min_le_left _ _
  generalize b.take (200 : Int).toNat = c at hv1 HBC hlen
  have hwb := B1.out.lt
  have HV1 := hide (hv1.more (show w.heap.size ≤ wb.heap.size by omega))
  obtain ⟨A, cp, rfl, hc1', hc2', hcs⟩ := hv1.open_
  unfold maxLen at hc2'
  obtain ⟨N, HN⟩ : ∃ n, Hid (c.length = n) := ⟨_, hide rfl⟩
  rw [HN.out] at hlen hc1' HV1
  rw [HN.out]
  clear hcs hv1 HBB
  go_wp2_with fail
  refine (Lend_any (.slice A N cp) c wb HV1.out (by rw [HN.out]; omega)).mono ?_
  rintro e w1 ⟨g, rfl, hg, hbk, hb1⟩
  rw [HN.out]
  have hs1 := hb1.size
  have hgl := hbk.lt
  have HBK1 := hide hbk
  have HX1 := hide (show Bs w1 w1.heap.size (.slice (some ⟨g, 0, none⟩) N (N + 3)) c by
    have h3 : (c ++ [85, 85, 85]).length = N + 3 := by rw [List.length_append, HN.out]; rfl
    have h := (Own8.of_blk (base := g) hbk (Nat.le_refl _) (by rw [h3]; unfold maxLen; omega)).reads
    rw [h3] at h
    have h := h.take N (by rw [h3]; omega)
    rw [← HN.out, List.take_left' rfl, HN.out] at h
    exact h)
  have B1' := hide (B1.out.below hb1 hwb)
  have HB1 := hide (HB.out.trans (hb1.mono HB.out.size))
  have HV2 := hide (HV1.out.below hb1 (by omega))
  clear hb1 hbk B1 HB HV1
  go_wp2_with (refine wpList_load_blk rfl 43 _ rfl _ rfl _ _ B1'.out 16 5 rfl HIK.out ?_)
  refine (HC.out c _ w1 ⟨by omega, by omega⟩ HX1.out (by rw [HN.out]; omega) HBC.out).mono ?_
  rintro e w2 ⟨g2, rfl, hg2, hk2, hb2⟩
  rw [HN.out]
  have hs2 := hb2.size
  have hgl2 := hk2.lt
  have HLS := hide (show (streamF T ks n c).length = N by rw [streamF_len, HN.out])
  have HBS := hide (streamF_bytes HT.out.2 HKL.out HKB.out n HBC.out)
  obtain ⟨s, HSS⟩ : ∃ s, Hid (streamF T ks n c = s) := ⟨_, hide rfl⟩
  have HRR := hide (HR.out c (.slice A N cp) w2 ⟨by omega, by omega⟩ ((HV2.out.below hb2 (by omega)).more (by omega)) (by rw [HN.out]; omega) HBC.out)
  rw [HSS.out] at hk2 HLS HBS HRR
  have HK2 := hide hk2
  have B2 := hide (B1'.out.below hb2 (by omega))
  have HBK2 := hide (HBK1.out.below hb2 hgl)
  have HV3 := hide (HV2.out.below hb2 (by omega))
  have HB2 := hide (HB1.out.trans (hb2.mono (by omega)))
  clear hb2 hk2 B1' HB1 HV2 HSS HC HR HT HKL HKB HX1 HBK1
  go_wp2_with (refine wpList_load_blk rfl 43 _ rfl _ rfl _ _ B2.out 16 5 rfl HIK.out ?_)
  refine HRR.out.mono ?_
  rintro e w3 ⟨v22, rfl, ho22, hb3⟩
  have HO22 := hide ho22
  have hs3 := hb3.size
  have HK3 := hide (HK2.out.below hb3 hgl2)
  have HBK3 := hide (HBK2.out.below hb3 (by omega))
  have HV4 := hide (HV3.out.below hb3 (by omega))
  have HB3 := hide (HB2.out.trans (hb3.mono (by omega)))
  have HX3 := hide (show Bs w3 w3.heap.size (.slice (some ⟨g2, 0, none⟩) N N) s by
    have h := (Own8.of_blk (base := g2) HK3.out (Nat.le_refl _) (by rw [HLS.out]; unfold maxLen; omega)).reads
    rw [HLS.out] at h
    exact h)
  clear hb3 ho22 HK2 HBK2 HV3 HB2 B2 HRR
  go_wp2_with fail
  refine (same_bytes _ _ s s w3 w3.heap.size HX3.out HO22.out.reads (Nat.le_refl _)).mono ?_
  rintro e w4 ⟨rfl, hb4⟩
  rw [decide_eq_true rfl]
  have hs4 := hb4.size
  have HK4 := hide (HK3.out.below hb4 (by omega))
  have HBK4 := hide (HBK3.out.below hb4 (by omega))
  have HV5 := hide (HV4.out.below hb4 (by omega))
  have HB4 := hide (HB3.out.trans (hb4.mono (by omega)))
  have HSP := hide (Spoil_any g2 N s w4 HK4.out HBS.out (by rw [HLS.out]; omega) (by rw [HLS.out]; omega))
  rw [HLS.out] at HSP
  clear hb4 HK3 HBK3 HV4 HB3 HX3 HO22
  go_wp2_with fail
  refine HSP.out.mono ?_
  rintro e w5 ⟨⟨r, rfl⟩, hg5⟩
  have hs5 := hg5.size
  have HBK5 := hide (HBK4.out.grown hg5 (by simp <;> omega))
  have HB5w := hide (show Below wb.heap.size w4 w5 from (Below.refl wb.heap.size w4).grown hg5 (by omega) (by intro k hk; simp at hk; omega))
  have HV6 := hide ((HV5.out.below HB5w.out (by omega)).more (show wb.heap.size ≤ w5.heap.size by omega))
  have HB5 := hide (HB4.out.trans (HB5w.out.mono (by omega)))
  clear hg5 HBK4 HV5 HB4 HSP HK4 HB5w
  have HINT := hide (Intact_any g (.slice A N cp) c w5 HBK5.out HV6.out (by rw [HN.out]; omega))
  rw [HN.out] at HINT
  go_wp2_with fail
  refine HINT.out.mono ?_
  rintro e w6 ⟨rfl, hb6⟩
  have HB6 := hide (HB5.out.trans (hb6.mono (by omega)))
  clear hb6
  go_wp2_with fail
  refine (wakes03 _).mono ?_
  rintro e w7 ⟨rfl, hb7⟩
  have HB7 := hide (HB6.out.trans (hb7.mono HB6.out.size))
  clear hb7
  go_wp2_with fail
  go_ret
  exact ⟨rfl, HB7.out⟩

set_option maxRecDepth 100000 in
theorem lifted (os : Os) (started : os.Started) (H : Type) (enc : TypeId × Value → H) :
    ReturnsInHanded {} Try.checked os 11 .any (Rows.aesStreamsSpec.pre6 enc Try.prog Try.f11 Rows.aesStreamsRow.domain false) (Rows.aesStreamsSpec.post enc Try.prog Try.f11 false true false false) := by
  refine returnsInHanded_of_change (C := Try.checked) own started (by kernel_rfl) Try.func11
    (ChangeSpec.witness6 (enc := enc) (C := Try.checked) false ⟨#[], #[.agg #[.int .u8 0, .int .u8 0, .int .u8 0, .int .u8 0, .int .u8 0, .int .u8 0, .int .u8 0, .int .u8 0, .int .u8 0, .int .u8 0, .int .u8 0, .int .u8 0, .int .u8 0, .int .u8 0, .int .u8 0, .int .u8 0], .int .i64 0, .slice none 0 0], []⟩ 8 (by kernel_rfl) (by kernel_rfl) (by kernel_rfl) (by kernel_rfl)) ?_
  intro W base args ds gs before hval0 hW hcnd _
  have hval : ∀ (j : Nat) t v, Try.f11.params[j]? = some t → args[j]? = some v → Value.okWide Try.prog W .any base t v := hval0
  have hW' := hW
  obtain ⟨p, q, hA0, hV, rfl, hfz, hnd⟩ := hW
  have hA : DataW.TrodAll enc Try.prog W 0 (fun _ => true) true Try.f11.params.toList args.toList ds p := hA0
  rw [Try.params11] at hA hval
  obtain ⟨v0, vs0, d0, ds0, p0, q0, hargs, rfl, rfl, h0, r0⟩ := trodAll_cons hA
  obtain ⟨v1, vs1, d1, ds1, p1, q1, rfl, rfl, rfl, h1, r1⟩ := trodAll_cons r0
  obtain ⟨v2, vs2, d2, ds2, p2, q2, rfl, rfl, rfl, h2, r2⟩ := trodAll_cons r1
  obtain ⟨rfl, rfl, rfl⟩ := trodAll_nil r2
  obtain rfl : args = #[v0, v1, v2] := by cases args; simp_all
  obtain ⟨rfl, rfl⟩ := trodVars_none hV
  have k0 := h0
  have lt0 : ∀ x ∈ p0, x.block < W.heap.size := by obtain ⟨m, hm⟩ := k0; exact DataW.trod_lt m _ _ _ hm
  obtain ⟨z0, rfl, w0, b0⟩ := read_arr16_key (hval 0 43 v0 rfl rfl) h0
  obtain ⟨a1, rfl, rfl, rfl, wf1⟩ := open_int Try.underlying3 (hval 1 3 v1 rfl rfl) h1
  obtain ⟨s2, len2, cap2, rfl⟩ := okWide_slice Try.underlying49 (hval 2 49 v2 rfl rfl)
  have k2 := h2
  have lt2 : ∀ x ∈ p2, x.block < W.heap.size := by obtain ⟨m, hm⟩ := k2; exact DataW.trod_lt m _ _ _ hm
  obtain ⟨z2, w2, b2⟩ := read_bytes h2
  clear hA0 hval0
  refine (walk W z0 w0 b0 a1 (in64_wf wf1) _ z2 w2 b2).mono fun e W' ⟨he, bel⟩ => ?_
  subst he
  exact ⟨_, rfl, _, _, _, [], _, [], hW', trodAll_mk1 (shut_bool Try.underlying4 _), (trodAll_cons_mk (Below.trod laidOut (by kernel_rfl) (of_decide_eq_true (by kernel_rfl)) k0 bel lt0) (trodAll_cons_mk (shut_int Try.underlying3 wf1) (trodAll_cons_mk (Below.trod laidOut (by kernel_rfl) (of_decide_eq_true (by kernel_rfl)) k2 bel lt2) trodAll_mk0))), rfl, bel.frame _, fun h => by cases h⟩

theorem over : Rows.aesStreamsRow.holds Try.pinned (OpenSpec.ofChange Rows.aesStreamsSpec) :=
  OpenClaim.holds_of_wide 11 Try.f11 rfl rfl rfl rfl rfl rfl rfl ⟨rfl, rfl, rfl, rfl, rfl⟩ rfl rfl rfl rfl rfl (by kernel_rfl) Try.func11 (by kernel_rfl)
    (of_decide_eq_true (by kernel_rfl)) (by unfold Func.isWrapper; rw [if_neg (of_decide_eq_false (by kernel_rfl))]; exact ⟨rfl, rfl⟩)
    (fun os started H enc _ => lifted os started H enc)

theorem proved : Rows.AesStreamsSaid := over
end Go.Proofs.Ytoicohcomjnnfaa.LawAesStreams
