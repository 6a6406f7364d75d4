/- P3.1: aes.Block and aes.Expand answer as the reference does. No condition. -/
import Derived.Test.YtoicohcomjnnfaaFrameArr
import Derived.Test.YtoicohcomjnnfaaWakes03
import Derived.Test.YtoicohcomjnnfaaArrEq2
namespace Go.Proofs.Ytoicohcomjnnfaa.LawAesBlocks
open Go Go.RowKit Go.ChangeShapes Go.WideShapes Go.ChangeAt Go.Proofs.Ytoicohcomjnnfaa
set_option linter.unusedVariables false

theorem eq16 (xs : List Int) (h : xs.length = 16) (w : World) : (Op.equalIn 10000 42 (.agg (u8s xs).toArray) (.agg (u8s xs).toArray)).run Try.prog w = .ok true w := by
  obtain ⟨i, hi, hs⟩ := Option.map_eq_some_iff.1 (show (Try.prog.info? 5).map (·.size) = some 1 by kernel_rfl)
  have := run_equalIn_arr (P := Try.prog) w 9998 Try.underlying42 Try.underlying5 hi hs xs xs h h
  rw [decide_eq_true rfl] at this
  exact this
theorem eq176 (xs : List Int) (h : xs.length = 176) (w : World) : (Op.equalIn 10000 45 (.agg (u8s xs).toArray) (.agg (u8s xs).toArray)).run Try.prog w = .ok true w :=
  run_equalIn_arr2_self w Try.underlying45 Try.underlying42 Try.underlying5 (by kernel_rfl) (by kernel_rfl) xs (by omega)

set_option maxHeartbeats 2000000 in
theorem walk (w : World) (key : List Int) (hk : key.length = 16) (bk : Bytes key) (inp : List Int) (hi : inp.length = 16) (bi : Bytes inp) :
    Calls Try.prog 8 #[.agg (u8s key).toArray, .agg (u8s inp).toArray] w fun e w' => e = .returned (.bool true) ∧ Below w.heap.size w w' := by
  have HC1 := hide (fun w => Block_any key inp w hk bk hi bi)
  have HC2 := hide (fun w => Block_ref key inp w hk bk hi bi)
  have HC3 := hide (fun w => Expand_any key w hk bk)
  have HC4 := hide (fun w => Expand_ref key w hk bk)
  have HRL := hide (BlockF_len hk bk hi bi)
  have HEL := hide (ExpandF_len hk bk)
  have HI16 := hide (show (Try.prog.info? 42).map (·.size) = some (u8s inp).length by rw [u8s_len, hi]; exact size16)
  have HIK := hide (show (Try.prog.info? 43).map (·.size) = some (u8s key).length by rw [u8s_len, hk]; kernel_rfl)
  obtain ⟨R, HR⟩ : ∃ R, Hid (BlockF key inp = R) := ⟨_, hide rfl⟩
  obtain ⟨E, HE⟩ : ∃ R, Hid (ExpandF key = R) := ⟨_, hide rfl⟩
  rw [HR.out] at HC1 HC2 HRL
  rw [HE.out] at HC3 HC4 HEL
  have HQ1 := hide (eq16 R HRL.out)
  have HQ2 := hide (eq176 E HEL.out)
  clear hk bk hi bi HR HE HRL HEL
  go_enter Try.func8, Try.ntmps8
  go_upto_region 1 with fail
  obtain ⟨wb, HW⟩ : ∃ wb, Hid ((w.alloc (.cells (u8s key).toArray 43)).alloc (.cells (u8s inp).toArray 42) = wb) := ⟨_, hide rfl⟩
  have B1 : Blk wb w.heap.size 43 (u8s key) := by rw [← HW.out]; exact (Blk.new w 43 (u8s key)).alloc _
  have B2 : Blk wb (w.heap.size + 1) 42 (u8s inp) := by
    rw [← HW.out]; have := Blk.new (w.alloc (.cells (u8s key).toArray 43)) 42 (u8s inp); simpa using this
  have HB : Below w.heap.size w wb := by rw [← HW.out]; exact ((Below.refl w.heap.size w).alloc (Nat.le_refl _) _).alloc (by simp) _
  have hsz : w.heap.size + 2 ≤ wb.heap.size := by rw [← HW.out]; simp
  show (Code.region _ _ _).wp _ _ _ ((w.alloc (.cells (u8s key).toArray 43)).alloc (.cells (u8s inp).toArray 42))
  rw [HW.out]
  refine wp_region_held_drew (S := fun w' => Below wb.heap.size wb w') (by kernel_rfl) (Below.refl _ _).drew (fun hHeld => ?_)
  refine wpAnyH_take (i := 0) (v := .agg (u8s key).toArray) rfl (by kernel_rfl) (by kernel_rfl) (by kernel_rfl) (fun _ _ _ h => h) (yieldsIf_load_mid (by rfl) 43 _ rfl w.heap.size 0 rfl (u8s key) _ (fun w' hS => blk_range (B1.below hS (by omega)) 0 _ (fun j u h => by simpa using h)) rfl rfl HIK.out) hHeld ?_
  refine wpAnyH_take (i := 1) (v := .agg (u8s inp).toArray) rfl (by kernel_rfl) (by kernel_rfl) (by kernel_rfl) (fun _ _ _ h => h) (yieldsIf_load_mid (by rfl) 42 _ rfl (w.heap.size + 1) 0 rfl (u8s inp) _ (fun w' hS => blk_range (B2.below hS (by omega)) 0 _ (fun j u h => by simpa using h)) rfl rfl HI16.out) hHeld ?_
  refine wpAnyH_take (i := 3) (v := .agg (u8s key).toArray) rfl (by kernel_rfl) (by kernel_rfl) (by kernel_rfl) (fun _ _ _ h => h) (yieldsIf_load_mid (by rfl) 43 _ rfl w.heap.size 0 rfl (u8s key) _ (fun w' hS => blk_range (B1.below hS (by omega)) 0 _ (fun j u h => by simpa using h)) rfl rfl HIK.out) hHeld ?_
  refine wpAnyH_take (i := 4) (v := .agg (u8s inp).toArray) rfl (by kernel_rfl) (by kernel_rfl) (by kernel_rfl) (fun _ _ _ h => h) (yieldsIf_load_mid (by rfl) 42 _ rfl (w.heap.size + 1) 0 rfl (u8s inp) _ (fun w' hS => blk_range (B2.below hS (by omega)) 0 _ (fun j u h => by simpa using h)) rfl rfl HI16.out) hHeld ?_
  refine wpAnyH_ready (rs := [2]) (by kernel_rfl) (by simp) (AllReadyH.cons rfl (fun K hK => ?_) AllReadyH.nil)
  rw [if_pos (by rfl)]
  go_simp
  refine (HC1.out _).mono ?_
  rintro e w1 ⟨rfl, hb1⟩
  go_simp
  refine hK.out _ _ (hHeld.trans (hb1.mono hHeld.size)) (fun hHeld => ?_)
  clear hK K hb1
  try simp only [Act.put, List.setIfInBounds_toArray, List.set_cons_zero, List.set_cons_succ]
  refine wpAnyH_ready (rs := [5]) (by kernel_rfl) (by simp) (AllReadyH.cons rfl (fun K hK => ?_) AllReadyH.nil)
  rw [if_pos (by rfl)]
  go_simp
  refine (HC2.out _).mono ?_
  rintro e w1 ⟨rfl, hb1⟩
  go_simp
  refine hK.out _ _ (hHeld.trans (hb1.mono hHeld.size)) (fun hHeld => ?_)
  clear hK K hb1
  try simp only [Act.put, List.setIfInBounds_toArray, List.set_cons_zero, List.set_cons_succ]
  refine wpAnyH_take (i := 6) (v := .bool true) rfl (by kernel_rfl) (by kernel_rfl) (by kernel_rfl) (fun _ _ _ h => h) (Or.inl ⟨by rfl, fun w' hS => by have hq := HQ1.out w'; go_simp⟩) hHeld ?_
  refine wpAnyH_take (i := 7) (v := .bool true) rfl (by kernel_rfl) (by kernel_rfl) (by kernel_rfl) (fun _ _ _ h => h) (Or.inl ⟨by rfl, fun w' hS => by go_simp⟩) hHeld ?_
  refine wpAnyH_take (i := 8) (v := .agg (u8s key).toArray) rfl (by kernel_rfl) (by kernel_rfl) (by kernel_rfl) (fun _ _ _ h => h) (yieldsIf_load_mid (by rfl) 43 _ rfl w.heap.size 0 rfl (u8s key) _ (fun w' hS => blk_range (B1.below hS (by omega)) 0 _ (fun j u h => by simpa using h)) rfl rfl HIK.out) hHeld ?_
  refine wpAnyH_take (i := 10) (v := .agg (u8s key).toArray) rfl (by kernel_rfl) (by kernel_rfl) (by kernel_rfl) (fun _ _ _ h => h) (yieldsIf_load_mid (by rfl) 43 _ rfl w.heap.size 0 rfl (u8s key) _ (fun w' hS => blk_range (B1.below hS (by omega)) 0 _ (fun j u h => by simpa using h)) rfl rfl HIK.out) hHeld ?_
  refine wpAnyH_ready (rs := [9]) (by kernel_rfl) (by simp) (AllReadyH.cons rfl (fun K hK => ?_) AllReadyH.nil)
  rw [if_pos (by rfl)]
  go_simp
  refine (HC3.out _).mono ?_
  rintro e w1 ⟨rfl, hb1⟩
  go_simp
  refine hK.out _ _ (hHeld.trans (hb1.mono hHeld.size)) (fun hHeld => ?_)
  clear hK K hb1
  try simp only [Act.put, List.setIfInBounds_toArray, List.set_cons_zero, List.set_cons_succ]
  refine wpAnyH_ready (rs := [11]) (by kernel_rfl) (by simp) (AllReadyH.cons rfl (fun K hK => ?_) AllReadyH.nil)
  rw [if_pos (by rfl)]
  go_simp
  refine (HC4.out _).mono ?_
  rintro e w1 ⟨rfl, hb1⟩
  go_simp
  refine hK.out _ _ (hHeld.trans (hb1.mono hHeld.size)) (fun hHeld => ?_)
  clear hK K hb1
  try simp only [Act.put, List.setIfInBounds_toArray, List.set_cons_zero, List.set_cons_succ]
  refine wpAnyH_take (i := 12) (v := .bool true) rfl (by kernel_rfl) (by kernel_rfl) (by kernel_rfl) (fun _ _ _ h => h) (Or.inl ⟨by rfl, fun w' hS => by have hq := HQ2.out w'; go_simp⟩) hHeld ?_
  refine wpAnyH_take (i := 13) (v := .bool true) rfl (by kernel_rfl) (by kernel_rfl) (by kernel_rfl) (fun _ _ _ h => h) (Or.inl ⟨by rfl, fun w' hS => by go_simp⟩) hHeld ?_
  refine wpAnyH_take (i := 14) (v := .bool true) rfl (by kernel_rfl) (by kernel_rfl) (by kernel_rfl) (fun _ _ _ h => h) (Or.inl ⟨by rfl, fun w' hS => by go_simp⟩) hHeld ?_
  refine wpAnyH_ready (rs := [15]) (by kernel_rfl) (by simp) (AllReadyH.cons rfl (fun K hK => ?_) AllReadyH.nil)
  rw [if_pos (by rfl)]
  go_simp
  refine (wakes03 _).mono ?_
  rintro e w1 ⟨rfl, hb1⟩
  go_simp
  refine hK.out _ _ (hHeld.trans (hb1.mono hHeld.size)) (fun hHeld => ?_)
  clear hK K hb1
  try simp only [Act.put, List.setIfInBounds_toArray, List.set_cons_zero, List.set_cons_succ]
  refine wpAnyH_take (i := 16) (v := .bool true) rfl (by kernel_rfl) (by kernel_rfl) (by kernel_rfl) (fun _ _ _ h => h) (Or.inl ⟨by rfl, fun w' hS => by go_simp⟩) hHeld ?_
  refine wpAnyH_take (i := 17) (v := .bool true) rfl (by kernel_rfl) (by kernel_rfl) (by kernel_rfl) (fun _ _ _ h => h) (Or.inl ⟨by rfl, fun w' hS => by go_simp⟩) hHeld ?_
  refine wpAnyH_done (by kernel_rfl) ?_ _
  have HF := hide (HB.trans (hHeld.mono (by omega)))
  clear hHeld B1 B2 HB
  go_wp2_with fail
  go_ret
  exact ⟨rfl, HF.out⟩

set_option maxRecDepth 100000 in
theorem lifted (os : Os) (started : os.Started) (H : Type) (enc : TypeId × Value → H) :
    ReturnsInHanded {} Try.checked os 8 .any (Rows.aesBlocksSpec.pre6 enc Try.prog Try.f8 Rows.aesBlocksRow.domain false) (Rows.aesBlocksSpec.post enc Try.prog Try.f8 false true false false) := by
  refine returnsInHanded_of_change (C := Try.checked) own started (by kernel_rfl) Try.func8
    (ChangeSpec.witness6 (enc := enc) (C := Try.checked) false ⟨#[], #[.agg #[.int .u8 0, .int .u8 0, .int .u8 0, .int .u8 0, .int .u8 0, .int .u8 0, .int .u8 0, .int .u8 0, .int .u8 0, .int .u8 0, .int .u8 0, .int .u8 0, .int .u8 0, .int .u8 0, .int .u8 0, .int .u8 0], .agg #[.int .u8 0, .int .u8 0, .int .u8 0, .int .u8 0, .int .u8 0, .int .u8 0, .int .u8 0, .int .u8 0, .int .u8 0, .int .u8 0, .int .u8 0, .int .u8 0, .int .u8 0, .int .u8 0, .int .u8 0, .int .u8 0]], []⟩ 8 (by kernel_rfl) (by kernel_rfl) (by kernel_rfl) (by kernel_rfl)) ?_
  intro W base args ds gs before hval0 hW hcnd _
  have hval : ∀ (j : Nat) t v, Try.f8.params[j]? = some t → args[j]? = some v → Value.okWide Try.prog W .any base t v := hval0
  have hW' := hW
  obtain ⟨p, q, hA0, hV, rfl, hfz, hnd⟩ := hW
  have hA : DataW.TrodAll enc Try.prog W 0 (fun _ => true) true Try.f8.params.toList args.toList ds p := hA0
  rw [Try.params8] at hA hval
  obtain ⟨v0, vs0, d0, ds0, p0, q0, hargs, rfl, rfl, h0, r0⟩ := trodAll_cons hA
  obtain ⟨v1, vs1, d1, ds1, p1, q1, rfl, rfl, rfl, h1, r1⟩ := trodAll_cons r0
  obtain ⟨rfl, rfl, rfl⟩ := trodAll_nil r1
  obtain rfl : args = #[v0, v1] := by cases args; simp_all
  obtain ⟨rfl, rfl⟩ := trodVars_none hV
  have k0 := h0
  have lt0 : ∀ x ∈ p0, x.block < W.heap.size := by obtain ⟨m, hm⟩ := k0; exact DataW.trod_lt m _ _ _ hm
  obtain ⟨z0, rfl, w0, b0⟩ := read_arr16_key (hval 0 43 v0 rfl rfl) h0
  have k1 := h1
  have lt1 : ∀ x ∈ p1, x.block < W.heap.size := by obtain ⟨m, hm⟩ := k1; exact DataW.trod_lt m _ _ _ hm
  obtain ⟨z1, rfl, w1, b1⟩ := read_arr16_arr16 (hval 1 42 v1 rfl rfl) h1
  clear hA0 hval0
  refine (walk W z0 w0 b0 z1 w1 b1).mono fun e W' ⟨he, bel⟩ => ?_
  subst he
  exact ⟨_, rfl, _, _, _, [], _, [], hW', trodAll_mk1 (shut_bool Try.underlying4 _), (trodAll_cons_mk (Below.trod laidOut (by kernel_rfl) (of_decide_eq_true (by kernel_rfl)) k0 bel lt0) (trodAll_cons_mk (Below.trod laidOut (by kernel_rfl) (of_decide_eq_true (by kernel_rfl)) k1 bel lt1) trodAll_mk0)), rfl, bel.frame _, fun h => by cases h⟩

theorem over : Rows.aesBlocksRow.holds Try.pinned (OpenSpec.ofChange Rows.aesBlocksSpec) :=
  OpenClaim.holds_of_wide 8 Try.f8 rfl rfl rfl rfl rfl rfl rfl ⟨rfl, rfl, rfl, rfl, rfl⟩ rfl rfl rfl rfl rfl (by kernel_rfl) Try.func8 (by kernel_rfl)
    (of_decide_eq_true (by kernel_rfl)) (by unfold Func.isWrapper; rw [if_neg (of_decide_eq_false (by kernel_rfl))]; exact ⟨rfl, rfl⟩)
    (fun os started H enc _ => lifted os started H enc)

theorem proved : Rows.AesBlocksSaid := over
end Go.Proofs.Ytoicohcomjnnfaa.LawAesBlocks
