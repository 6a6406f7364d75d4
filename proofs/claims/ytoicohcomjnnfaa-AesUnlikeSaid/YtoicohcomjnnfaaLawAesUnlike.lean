/- P3.1: unlike blocks of one key are unlike still. No condition. -/
import Derived.Test.YtoicohcomjnnfaaFrameArr
import Derived.Test.YtoicohcomjnnfaaWakes03
import Derived.Test.YtoicohcomjnnfaaAesInj
import Derived.Test.YtoicohcomjnnfaaArrEq2
namespace Go.Proofs.Ytoicohcomjnnfaa.LawAesUnlike
open Go Go.RowKit Go.ChangeShapes Go.WideShapes Go.ChangeAt Go.Proofs.Ytoicohcomjnnfaa
set_option linter.unusedVariables false

theorem eq16 (xs ys : List Int) (h : xs.length = 16) (h' : ys.length = 16) (w : World) : (Op.equalIn 10000 42 (.agg (u8s xs).toArray) (.agg (u8s ys).toArray)).run Try.prog w = .ok (decide (xs = ys)) w := by
  obtain ⟨i, hi, hs⟩ := Option.map_eq_some_iff.1 (show (Try.prog.info? 5).map (·.size) = some 1 by kernel_rfl)
  exact run_equalIn_arr (P := Try.prog) w 9998 Try.underlying42 Try.underlying5 hi hs xs ys h h'
theorem index0 (E : List Int) (h : E.length = 176) (w : World) : (Instr.index 45 (.agg (u8s E).toArray) (.int .i64 0)).run Try.prog w = .ok (.agg (u8s (rowAt E 0)).toArray) w := by
  obtain ⟨i, hi, hs⟩ := Option.map_eq_some_iff.1 (show (Try.prog.info? 42).map (·.size) = some 16 by kernel_rfl)
  have hz : (sizeOf 42).run Try.prog w = .ok 16 w := by simp [sizeOf, typeInfo, hi, hs]
  have hp := arr_part2 (P := Try.prog) w (k := .u8) Try.underlying42 hi hs E 0
  have h0 : (E.drop 0).take 16 = rowAt E 0 := by simp [rowAt]
  rw [h0] at hp
  simp [Instr.index, run_underlying Try.underlying45, asIntOf, hz, go_sem]
  simp [u8s, rowAt, List.map_take]

set_option maxHeartbeats 2000000 in
theorem walk (w : World) (key : List Int) (hk : key.length = 16) (bk : Bytes key) (a : List Int) (ha : a.length = 16) (ba : Bytes a) (b : List Int) (hb : b.length = 16) (bb : Bytes b) :
    Calls Try.prog 9 #[.agg (u8s key).toArray, .agg (u8s a).toArray, .agg (u8s b).toArray] w fun e w' => e = .returned (.bool true) ∧ Below w.heap.size w w' := by
  have HC1 := hide (fun w => Block_any key a w hk bk ha ba)
  have HC2 := hide (fun w => Block_any key b w hk bk hb bb)
  have HC3 := hide (fun w => Expand_any key w hk bk)
  have HR1 := hide (BlockF_len hk bk ha ba)
  have HR2 := hide (BlockF_len hk bk hb bb)
  have HEL := hide (ExpandF_len hk bk)
  have HE0 := hide (show rowAt (ExpandF key) 0 = key from keyF_row0 hk tab_bytes.2 bk)
  have hinj : BlockF key a = BlockF key b ↔ a = b := ⟨blockF_inj tab_inj tab_bytes (ExpandF_len hk bk) (ExpandF_bytes hk bk) ha hb ba bb, fun e => by rw [e]⟩
  have HIA := hide (show (Try.prog.info? 42).map (·.size) = some (u8s a).length by rw [u8s_len, ha]; exact size16)
  have HIB := hide (show (Try.prog.info? 42).map (·.size) = some (u8s b).length by rw [u8s_len, hb]; exact size16)
  have HIK := hide (show (Try.prog.info? 43).map (·.size) = some (u8s key).length by rw [u8s_len, hk]; kernel_rfl)
  obtain ⟨R1, HX1⟩ : ∃ R, Hid (BlockF key a = R) := ⟨_, hide rfl⟩
  obtain ⟨R2, HX2⟩ : ∃ R, Hid (BlockF key b = R) := ⟨_, hide rfl⟩
  obtain ⟨E, HE⟩ : ∃ R, Hid (ExpandF key = R) := ⟨_, hide rfl⟩
  rw [HX1.out] at HC1 HR1 hinj
  rw [HX2.out] at HC2 HR2 hinj
  rw [HE.out] at HC3 HEL HE0
  obtain ⟨q, HQ⟩ : ∃ q, Hid (decide (a = b) = q) := ⟨_, hide rfl⟩
  have HQ1 := hide (show ∀ w : World, (Op.equalIn 10000 42 (.agg (u8s R1).toArray) (.agg (u8s R2).toArray)).run Try.prog w = .ok q w from fun w => by
    rw [eq16 R1 R2 HR1.out HR2.out w, show decide (R1 = R2) = decide (a = b) from decide_eq_decide.2 hinj, HQ.out])
  have HQ2 := hide (show ∀ w : World, (Op.equalIn 10000 42 (.agg (u8s a).toArray) (.agg (u8s b).toArray)).run Try.prog w = .ok q w from fun w => by
    rw [eq16 a b ha hb w, HQ.out])
  have HQ3 := hide (show ∀ w : World, (Op.equalIn 10000 42 (.agg (u8s key).toArray) (.agg (u8s key).toArray)).run Try.prog w = .ok true w from fun w => by
    rw [eq16 key key hk hk w, decide_eq_true rfl])
  have HQI := hide (show ∀ w : World, (Instr.index 45 (.agg (u8s E).toArray) (.int .i64 0)).run Try.prog w = .ok (.agg (u8s key).toArray) w from fun w => by
    rw [index0 E HEL.out w, HE0.out])
  clear hk bk ha ba hb bb HX1 HX2 HE HR1 HR2 HEL HE0 hinj HQ
  go_enter Try.func9, Try.ntmps9
  go_upto_region 1 with fail
  obtain ⟨wb, HW⟩ : ∃ wb, Hid (((w.alloc (.cells (u8s key).toArray 43)).alloc (.cells (u8s a).toArray 42)).alloc (.cells (u8s b).toArray 42) = wb) := ⟨_, hide rfl⟩
  have B1 : Blk wb w.heap.size 43 (u8s key) := by rw [← HW.out]; exact ((Blk.new w 43 (u8s key)).alloc _).alloc _
  have B2 : Blk wb (w.heap.size + 1) 42 (u8s a) := by
    rw [← HW.out]; have := (Blk.new (w.alloc (.cells (u8s key).toArray 43)) 42 (u8s a)).alloc (.cells (u8s b).toArray 42); simpa using this
  have B3 : Blk wb (w.heap.size + 1 + 1) 42 (u8s b) := by
    rw [← HW.out]; have := Blk.new ((w.alloc (.cells (u8s key).toArray 43)).alloc (.cells (u8s a).toArray 42)) 42 (u8s b); simpa using this
  have HB : Below w.heap.size w wb := by rw [← HW.out]; exact (((Below.refl w.heap.size w).alloc (Nat.le_refl _) _).alloc (by simp) _).alloc (by simp; omega) _
  have hsz : w.heap.size + 3 ≤ wb.heap.size := by rw [← HW.out]; simp
  show (Code.region _ _ _).wp _ _ _ (((w.alloc (.cells (u8s key).toArray 43)).alloc (.cells (u8s a).toArray 42)).alloc (.cells (u8s b).toArray 42))
  rw [HW.out]
  refine wp_region_held_drew (S := fun w' => Below wb.heap.size wb w') (by kernel_rfl) (Below.refl _ _).drew (fun hHeld => ?_)
  refine wpAnyH_take (i := 0) (v := .agg (u8s key).toArray) rfl (by kernel_rfl) (by kernel_rfl) (by kernel_rfl) (fun _ _ _ h => h) (yieldsIf_load_mid (by rfl) 43 _ rfl (w.heap.size) 0 rfl (u8s key) _ (fun w' hS => blk_range (B1.below hS (by omega)) 0 _ (fun j u h => by simpa using h)) rfl rfl HIK.out) hHeld ?_
  refine wpAnyH_take (i := 1) (v := .agg (u8s a).toArray) rfl (by kernel_rfl) (by kernel_rfl) (by kernel_rfl) (fun _ _ _ h => h) (yieldsIf_load_mid (by rfl) 42 _ rfl (w.heap.size + 1) 0 rfl (u8s a) _ (fun w' hS => blk_range (B2.below hS (by omega)) 0 _ (fun j u h => by simpa using h)) rfl rfl HIA.out) hHeld ?_
  refine wpAnyH_take (i := 3) (v := .agg (u8s key).toArray) rfl (by kernel_rfl) (by kernel_rfl) (by kernel_rfl) (fun _ _ _ h => h) (yieldsIf_load_mid (by rfl) 43 _ rfl (w.heap.size) 0 rfl (u8s key) _ (fun w' hS => blk_range (B1.below hS (by omega)) 0 _ (fun j u h => by simpa using h)) rfl rfl HIK.out) hHeld ?_
  refine wpAnyH_take (i := 4) (v := .agg (u8s b).toArray) rfl (by kernel_rfl) (by kernel_rfl) (by kernel_rfl) (fun _ _ _ h => h) (yieldsIf_load_mid (by rfl) 42 _ rfl (w.heap.size + 1 + 1) 0 rfl (u8s b) _ (fun w' hS => blk_range (B3.below hS (by omega)) 0 _ (fun j u h => by simpa using h)) rfl rfl HIB.out) hHeld ?_
  refine wpAnyH_take (i := 7) (v := .agg (u8s a).toArray) rfl (by kernel_rfl) (by kernel_rfl) (by kernel_rfl) (fun _ _ _ h => h) (yieldsIf_load_mid (by rfl) 42 _ rfl (w.heap.size + 1) 0 rfl (u8s a) _ (fun w' hS => blk_range (B2.below hS (by omega)) 0 _ (fun j u h => by simpa using h)) rfl rfl HIA.out) hHeld ?_
  refine wpAnyH_take (i := 8) (v := .agg (u8s b).toArray) rfl (by kernel_rfl) (by kernel_rfl) (by kernel_rfl) (fun _ _ _ h => h) (yieldsIf_load_mid (by rfl) 42 _ rfl (w.heap.size + 1 + 1) 0 rfl (u8s b) _ (fun w' hS => blk_range (B3.below hS (by omega)) 0 _ (fun j u h => by simpa using h)) rfl rfl HIB.out) hHeld ?_
  refine wpAnyH_take (i := 9) (v := .bool q) rfl (by kernel_rfl) (by kernel_rfl) (by kernel_rfl) (fun _ _ _ h => h) (Or.inl ⟨by rfl, fun w' hS => by have hq := HQ2.out w'; go_simp⟩) hHeld ?_
  refine wpAnyH_ready (rs := [2]) (by kernel_rfl) (by simp) (AllReadyH.cons rfl (fun K hK => ?_) AllReadyH.nil)
  rw [if_pos (by rfl)]
  go_simp
  refine (HC1.out _).mono ?_
  rintro e w1 ⟨rfl, hb1⟩
  go_simp
  refine hK.out _ _ (hHeld.trans (hb1.mono hHeld.size)) (fun hHeld => ?_)
  clear hK K hb1
  try simp only [Act.put, List.setIfInBounds_toArray, List.set_cons_zero, List.set_cons_succ]
  refine wpAnyH_ready (rs := [5]) (by kernel_rfl) (by simp) (AllReadyH.cons rfl (fun K hK => ?_) AllReadyH.nil)
  rw [if_pos (by rfl)]
  go_simp
  refine (HC2.out _).mono ?_
  rintro e w1 ⟨rfl, hb1⟩
  go_simp
  refine hK.out _ _ (hHeld.trans (hb1.mono hHeld.size)) (fun hHeld => ?_)
  clear hK K hb1
  try simp only [Act.put, List.setIfInBounds_toArray, List.set_cons_zero, List.set_cons_succ]
  refine wpAnyH_take (i := 6) (v := .bool q) rfl (by kernel_rfl) (by kernel_rfl) (by kernel_rfl) (fun _ _ _ h => h) (Or.inl ⟨by rfl, fun w' hS => by have hq := HQ1.out w'; go_simp⟩) hHeld ?_
  refine wpAnyH_take (i := 10) (v := .bool true) rfl (by kernel_rfl) (by kernel_rfl) (by kernel_rfl) (fun _ _ _ h => h) (Or.inl ⟨by rfl, fun w' hS => by go_simp⟩) hHeld ?_
  refine wpAnyH_take (i := 11) (v := .bool true) rfl (by kernel_rfl) (by kernel_rfl) (by kernel_rfl) (fun _ _ _ h => h) (Or.inl ⟨by rfl, fun w' hS => by go_simp⟩) hHeld ?_
  refine wpAnyH_take (i := 12) (v := .agg (u8s key).toArray) rfl (by kernel_rfl) (by kernel_rfl) (by kernel_rfl) (fun _ _ _ h => h) (yieldsIf_load_mid (by rfl) 43 _ rfl (w.heap.size) 0 rfl (u8s key) _ (fun w' hS => blk_range (B1.below hS (by omega)) 0 _ (fun j u h => by simpa using h)) rfl rfl HIK.out) hHeld ?_
  refine wpAnyH_take (i := 15) (v := .agg (u8s key).toArray) rfl (by kernel_rfl) (by kernel_rfl) (by kernel_rfl) (fun _ _ _ h => h) (yieldsIf_load_mid (by rfl) 43 _ rfl (w.heap.size) 0 rfl (u8s key) _ (fun w' hS => blk_range (B1.below hS (by omega)) 0 _ (fun j u h => by simpa using h)) rfl rfl HIK.out) hHeld ?_
  refine wpAnyH_ready (rs := [13]) (by kernel_rfl) (by simp) (AllReadyH.cons rfl (fun K hK => ?_) AllReadyH.nil)
  rw [if_pos (by rfl)]
  go_simp
  refine (HC3.out _).mono ?_
  rintro e w1 ⟨rfl, hb1⟩
  go_simp
  refine hK.out _ _ (hHeld.trans (hb1.mono hHeld.size)) (fun hHeld => ?_)
  clear hK K hb1
  try simp only [Act.put, List.setIfInBounds_toArray, List.set_cons_zero, List.set_cons_succ]
  refine wpAnyH_take (i := 14) (v := .agg (u8s key).toArray) rfl (by kernel_rfl) (by kernel_rfl) (by kernel_rfl) (fun _ _ _ h => h) (Or.inl ⟨by rfl, fun w' hS => by have hq := HQI.out w'; go_simp⟩) hHeld ?_
  refine wpAnyH_take (i := 16) (v := .bool true) rfl (by kernel_rfl) (by kernel_rfl) (by kernel_rfl) (fun _ _ _ h => h) (Or.inl ⟨by rfl, fun w' hS => by have hq := HQ3.out w'; go_simp⟩) hHeld ?_
  refine wpAnyH_take (i := 17) (v := .bool true) rfl (by kernel_rfl) (by kernel_rfl) (by kernel_rfl) (fun _ _ _ h => h) (Or.inl ⟨by rfl, fun w' hS => by go_simp⟩) hHeld ?_
  refine wpAnyH_take (i := 18) (v := .bool true) rfl (by kernel_rfl) (by kernel_rfl) (by kernel_rfl) (fun _ _ _ h => h) (Or.inl ⟨by rfl, fun w' hS => by go_simp⟩) hHeld ?_
  refine wpAnyH_ready (rs := [19]) (by kernel_rfl) (by simp) (AllReadyH.cons rfl (fun K hK => ?_) AllReadyH.nil)
  rw [if_pos (by rfl)]
  go_simp
  refine (wakes03 _).mono ?_
  rintro e w1 ⟨rfl, hb1⟩
  go_simp
  refine hK.out _ _ (hHeld.trans (hb1.mono hHeld.size)) (fun hHeld => ?_)
  clear hK K hb1
  try simp only [Act.put, List.setIfInBounds_toArray, List.set_cons_zero, List.set_cons_succ]
  refine wpAnyH_take (i := 20) (v := .bool true) rfl (by kernel_rfl) (by kernel_rfl) (by kernel_rfl) (fun _ _ _ h => h) (Or.inl ⟨by rfl, fun w' hS => by go_simp⟩) hHeld ?_
  refine wpAnyH_take (i := 21) (v := .bool true) rfl (by kernel_rfl) (by kernel_rfl) (by kernel_rfl) (fun _ _ _ h => h) (Or.inl ⟨by rfl, fun w' hS => by go_simp⟩) hHeld ?_
  refine wpAnyH_done (by kernel_rfl) ?_ _
  have HF := hide (HB.trans (hHeld.mono (by omega)))
  clear hHeld B1 B2 B3 HB
  go_wp2_with fail
  go_ret
  exact ⟨rfl, HF.out⟩

set_option maxRecDepth 100000 in
theorem lifted (os : Os) (started : os.Started) (H : Type) (enc : TypeId × Value → H) :
    ReturnsInHanded {} Try.checked os 9 .any (Rows.aesUnlikeSpec.pre6 enc Try.prog Try.f9 Rows.aesUnlikeRow.domain false) (Rows.aesUnlikeSpec.post enc Try.prog Try.f9 false true false false) := by
  refine returnsInHanded_of_change (C := Try.checked) own started (by kernel_rfl) Try.func9
    (ChangeSpec.witness6 (enc := enc) (C := Try.checked) false ⟨#[], #[.agg #[.int .u8 0, .int .u8 0, .int .u8 0, .int .u8 0, .int .u8 0, .int .u8 0, .int .u8 0, .int .u8 0, .int .u8 0, .int .u8 0, .int .u8 0, .int .u8 0, .int .u8 0, .int .u8 0, .int .u8 0, .int .u8 0], .agg #[.int .u8 0, .int .u8 0, .int .u8 0, .int .u8 0, .int .u8 0, .int .u8 0, .int .u8 0, .int .u8 0, .int .u8 0, .int .u8 0, .int .u8 0, .int .u8 0, .int .u8 0, .int .u8 0, .int .u8 0, .int .u8 0], .agg #[.int .u8 0, .int .u8 0, .int .u8 0, .int .u8 0, .int .u8 0, .int .u8 0, .int .u8 0, .int .u8 0, .int .u8 0, .int .u8 0, .int .u8 0, .int .u8 0, .int .u8 0, .int .u8 0, .int .u8 0, .int .u8 0]], []⟩ 8 (by kernel_rfl) (by kernel_rfl) (by kernel_rfl) (by kernel_rfl)) ?_
  intro W base args ds gs before hval0 hW hcnd _
  have hval : ∀ (j : Nat) t v, Try.f9.params[j]? = some t → args[j]? = some v → Value.okWide Try.prog W .any base t v := hval0
  have hW' := hW
  obtain ⟨p, q, hA0, hV, rfl, hfz, hnd⟩ := hW
  have hA : DataW.TrodAll enc Try.prog W 0 (fun _ => true) true Try.f9.params.toList args.toList ds p := hA0
  rw [Try.params9] at hA hval
  obtain ⟨v0, vs0, d0, ds0, p0, q0, hargs, rfl, rfl, h0, r0⟩ := trodAll_cons hA
  obtain ⟨v1, vs1, d1, ds1, p1, q1, rfl, rfl, rfl, h1, r1⟩ := trodAll_cons r0
  obtain ⟨v2, vs2, d2, ds2, p2, q2, rfl, rfl, rfl, h2, r2⟩ := trodAll_cons r1
  obtain ⟨rfl, rfl, rfl⟩ := trodAll_nil r2
  obtain rfl : args = #[v0, v1, v2] := by cases args; simp_all
  obtain ⟨rfl, rfl⟩ := trodVars_none hV
  have k0 := h0
  have lt0 : ∀ x ∈ p0, x.block < W.heap.size := by obtain ⟨m, hm⟩ := k0; exact DataW.trod_lt m _ _ _ hm
  obtain ⟨z0, rfl, w0, b0⟩ := read_arr16_key (hval 0 43 v0 rfl rfl) h0
  have k1 := h1
  have lt1 : ∀ x ∈ p1, x.block < W.heap.size := by obtain ⟨m, hm⟩ := k1; exact DataW.trod_lt m _ _ _ hm
  obtain ⟨z1, rfl, w1, b1⟩ := read_arr16_arr16 (hval 1 42 v1 rfl rfl) h1
  have k2 := h2
  have lt2 : ∀ x ∈ p2, x.block < W.heap.size := by obtain ⟨m, hm⟩ := k2; exact DataW.trod_lt m _ _ _ hm
  obtain ⟨z2, rfl, w2, b2⟩ := read_arr16_arr16 (hval 2 42 v2 rfl rfl) h2
  clear hA0 hval0
  refine (walk W z0 w0 b0 z1 w1 b1 z2 w2 b2).mono fun e W' ⟨he, bel⟩ => ?_
  subst he
  exact ⟨_, rfl, _, _, _, [], _, [], hW', trodAll_mk1 (shut_bool Try.underlying4 _), (trodAll_cons_mk (Below.trod laidOut (by kernel_rfl) (of_decide_eq_true (by kernel_rfl)) k0 bel lt0) (trodAll_cons_mk (Below.trod laidOut (by kernel_rfl) (of_decide_eq_true (by kernel_rfl)) k1 bel lt1) (trodAll_cons_mk (Below.trod laidOut (by kernel_rfl) (of_decide_eq_true (by kernel_rfl)) k2 bel lt2) trodAll_mk0))), rfl, bel.frame _, fun h => by cases h⟩

theorem over : Rows.aesUnlikeRow.holds Try.pinned (OpenSpec.ofChange Rows.aesUnlikeSpec) :=
  OpenClaim.holds_of_wide 9 Try.f9 rfl rfl rfl rfl rfl rfl rfl ⟨rfl, rfl, rfl, rfl, rfl⟩ rfl rfl rfl rfl rfl (by kernel_rfl) Try.func9 (by kernel_rfl)
    (of_decide_eq_true (by kernel_rfl)) (by unfold Func.isWrapper; rw [if_neg (of_decide_eq_false (by kernel_rfl))]; exact ⟨rfl, rfl⟩)
    (fun os started H enc _ => lifted os started H enc)

theorem proved : Rows.AesUnlikeSaid := over
end Go.Proofs.Ytoicohcomjnnfaa.LawAesUnlike
