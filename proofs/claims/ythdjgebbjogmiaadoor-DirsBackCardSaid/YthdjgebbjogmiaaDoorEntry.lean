/- dirs.entry: the entry of a row. Condition: the table of powers of ten stands; rows of at most sixteen thousand bytes. -/
import Derived.Test.YthdjgebbjogmiaaDoorJoin17
import Derived.Test.YthdjgebbjogmiaaDoorJoin18
import Derived.Test.YthdjgebbjogmiaaDoorJoin21
import Derived.Test.YthdjgebbjogmiaaDoorJoin24
import Derived.Test.YthdjgebbjogmiaaDoorParse
import Derived.Test.YthdjgebbjogmiaaDoorJoin25
set_option linter.unusedVariables false
set_option linter.unusedSimpArgs false
namespace Go.Proofs.YthdjgebbjogmiaaDoor
open Go Go.RowKit
set_option linter.unusedVariables false
set_option linter.unusedSimpArgs false
set_option maxRecDepth 100000
theorem exec_extractG {o : Oper} {a : Act} {w : World} {k : Nat} (x : Operand) (ho : o.op = .extract x k) (vs : Array Value) (hx : a.eval x = .tuple vs) (v : Value) (hv : vs[k]? = some v) : (execOp a.eval o).run Tryd.prog w = .ok (.value v) w := by
 unfold execOp
 simp only [ho, hx]
 go_simp
 try simp [hv]
/-- Parse in one form. -/
theorem Parse_u (xs : List Int) (w : World) (hx : Bytes xs) (ht : Tab w w.heap.size) (hn : xs.length ≤ 16000) :
 Calls Tryd.prog 71 #[.string (strOfNums xs)] w fun e w' => ∃ (c : CapD) (l : Value) (er : Int), e = .returned (.tuple #[capV c l, .int .i64 er]) ∧ c.Wf ∧ RowB w' w.heap.size l c.lit ∧ ((parseF xs = some c ∧ er = 0) ∨ (parseF xs = none ∧ er = 2)) ∧ Below w.heap.size w w' := by
 refine (Parse_any (strOfNums xs) w ht (by rw [strOfNums_size]; exact hn)).mono fun e w' h => ?_
 unfold ParsePost at h
 rw [strB_of hx] at h
 rcases h with ⟨c, l, h1, h2, h3, h4⟩ | ⟨h1, h2, h3⟩
 · exact ⟨c, l, 0, h2, ((parse_iff _ _).1 h1).1, h3, .inl ⟨h1, rfl⟩, h4⟩
 · exact ⟨CapD.none_, .slice none 0 0, 2, h2, CapD.none_wf, RowB.nil_ _ _, .inr ⟨h1, rfl⟩, h3⟩
theorem d_takes_small : ∀ (n : Nat) (b : List Int) (l : List (List Int)), takesF n b = some l → ∀ x ∈ l, x.length ≤ b.length
 | 0, b, l, h, x, hx => by
  unfold takesF at h
  split at h
  · injection h with h; subst h; cases hx
  · cases h
 | n + 1, b, l, h, x, hx => by
  unfold takesF at h
  obtain ⟨p, hp, h2⟩ := Option.bind_eq_some_iff.1 h
  obtain ⟨l', h3, rfl⟩ := Option.map_eq_some_iff.1 h2
  obtain ⟨y, r⟩ := p
  have h4 := take_len hp
  rcases List.mem_cons.1 hx with rfl | hx
  · exact h4.2
  · exact Nat.le_trans (d_takes_small n r l' h3 x hx) h4.1
set_option maxHeartbeats 16000000
theorem entry_any (c : CapD) (lit v : Value) (row : List Int) (w : World) (hc : c.Wf) (hl1 : lit.oneCell' = true) (hv : Bs w w.heap.size v row) (hb : Bytes row) (hn : row.length ≤ 16000) (ht : Tab w w.heap.size) :
 Calls Tryd.prog 53 #[capV c lit, v] w fun r w' => FindRes w r w' (entOf (c.kind == 7) c.key row) := by
 have HT := hide ht
 have HC := hide hc
 have HV := hide hv
 have HRB := hide hb
 obtain ⟨OF, HOF⟩ : ∃ x, Hid (entOf (c.kind == 7) c.key row = x) := ⟨_, hide rfl⟩
 rw [HOF.out]
 obtain ⟨kd, HKD⟩ : ∃ k, Hid (c.kind = k) := ⟨_, hide rfl⟩
 have HX0 := hide (show capInt c 0 = some kd by rw [← HKD.out]; rfl)
 obtain ⟨key, HKEY⟩ : ∃ k, Hid (c.key = k) := ⟨_, hide rfl⟩
 obtain ⟨qw, HQW⟩ : ∃ q, Hid ((kd == 7) = q) := ⟨_, hide rfl⟩
 rw [HKD.out, HKEY.out, HQW.out] at HOF
 have HKID := hide (fun (W : World) (nm b : List Int) (u : Value) (hnm : Bytes nm) (hnl : nm.length ≤ 16000) (hu : Bs W W.heap.size u b) (hb : Bytes b) (hbl : b.length ≤ 16000) (hT : Tab W W.heap.size) => kid_any c lit nm b u W HC.out hl1 hnm (by omega) hu hb hbl hT)
 rw [HKEY.out] at HKID
 have HSZ0 := hide (show (Tryd.prog.info? 45).map (·.size) = some (entC EntD.none_ (.slice none 0 0) (.slice none 0 0)).length from size_entL none_LE.1 none_LE.2)
 have HON0 := hide (ent_oneL (e := EntD.none_) (x := (.slice none 0 0)) (y := (.slice none 0 0)) rfl rfl)
 obtain ⟨g2, HG2⟩ : ∃ k, Hid (w.heap.size = k) := ⟨_, hide rfl⟩
 have hg2 : g2 ≤ w.heap.size ∧ w.heap.size ≤ g2 := by have := HG2.out; omega
 clear hc hv hb ht
 go_enter Tryd.func53, Tryd.ntmps53
 go_wp2_with (first
  | (refine wpList_cap_new (c := c) (lit := lit) _ rfl rfl rfl HC.out.keyL HC.out.fpL hl1 ?_; intro w1 hb1 hw1 hs1; rw [HG2.out] at hb1 hs1; try rw [HG2.out]; have H2 := hide hb1; have HB := hide hw1; have hz1 := hw1.size; have HS1 := hide hs1; clear hb1 hw1 hs1)
  | (refine wpList_alloc_blk rfl 45 rfl _ zero_ent ?_; intro w2 hb2 hw2 hs2; obtain ⟨g4, HG4⟩ : ∃ k, Hid (w1.heap.size = k) := ⟨_, hide rfl⟩; have hg4 : g2 < g4 ∧ g4 ≤ g2 + 1 := (by have := HG4.out; have := HS1.out; omega); rw [HG4.out] at hb2; try rw [HG4.out]; have H4 := hide hb2; replace H2 := hide (H2.out.below hw2 H2.out.lt); replace HB := hide (HB.out.trans (hw2.mono HB.out.size)); have hz2 := hw2.size; clear hb2 hw2 hs2))
 refine (TakeNets_any v row 3 w2 ((HV.out.below HB.out (Nat.le_refl _)).more HB.out.size) HRB.out (by omega) (by omega)).mono ?_
 rintro e w3 (⟨v3, l3, ht3, rfl, ho3, hb3⟩ | ⟨ht3, rfl, hb3⟩)
 case inr =>
  have HNO := hide (show OF = none by rw [← HOF.out]; unfold entOf; rw [show takesF 3 row = none from ht3]; rfl)
  replace H2 := hide (H2.out.below hb3 H2.out.lt)
  replace H4 := hide (H4.out.below hb3 H4.out.lt)
  replace HB := hide (HB.out.trans (hb3.mono HB.out.size))
  have hz_hb3 := hb3.size
  clear hb3
  go_wp2_with (first
   | go_skip
   | (refine wpList_st_build _ _ rfl rfl _ built_ent0 ?_)
   | (refine wpList_st_putAll _ _ _ rfl rfl rfl H4.out (entC EntD.none_ (.slice none 0 0) (.slice none 0 0)) rfl rfl HSZ0.out HON0.out ?_; intro wq hbs hgs hss; replace H4 := hide hbs; replace HB := hide (HB.out.grown hgs HB.out.size (by intro k hk; injection hk; omega)); clear hbs hgs)
   | (exact bodyPost_ret (results_st rfl _ _ g4 _ _ rfl H4.out _ Tryd.underlying45 rfl HSZ0.out _ rfl) rfl (.inr ⟨HNO.out, rfl, HB.out⟩)))
 have hs3 := takes_sound 3 row l3 ht3
 obtain ⟨a, b, d, rfl⟩ := three_ hs3.2
 have HTK := hide (show takesF 3 row = some [a, b, d] from ht3)
 have hsm := d_takes_small 3 row _ ht3
 have hla : a.length ≤ 16000 := Nat.le_trans (hsm a (by simp)) hn
 have hlb : b.length ≤ 16000 := Nat.le_trans (hsm b (by simp)) hn
 have hld : d.length ≤ 16000 := Nat.le_trans (hsm d (by simp)) hn
 have HBY := hide (show Bytes a ∧ Bytes b ∧ Bytes d by
  have h := HRB.out
  rw [hs3.1] at h
  have h' := netsF_parts _ h
  exact ⟨h' a (by simp), h' b (by simp), h' d (by simp)⟩)
 have HOFE := hide (show OF = (parseF b).bind fun r => if qw && decide (0 < d.length) then (parseF (kidF key a d)).map (fun x => (⟨a, r, x, true⟩ : EntD)) else some ⟨a, r, CapD.none_, false⟩ by rw [← HOF.out]; unfold entOf; rw [HTK.out]; rfl)
 have hrd := ho3.reads hb3.size
 obtain ⟨A3, c3, rfl, h31, h32, h33⟩ := hrd.open_
 obtain ⟨br, or_, rfl, hbrb, hcr⟩ := h33 (by simp)
 obtain ⟨u0, hu0, hbu0⟩ := hcr 0 (by simp)
 obtain ⟨u1, hu1, hbu1⟩ := hcr 1 (by simp)
 obtain ⟨u2, hu2, hbu2⟩ := hcr 2 (by simp)
 have HU0 := hide (show Bs w3 w3.heap.size u0 a from hbu0)
 have HU1 := hide (show Bs w3 w3.heap.size u1 b from hbu1)
 have HU2 := hide (show Bs w3 w3.heap.size u2 d from hbu2)
 have HR0 := hide (show w3.cell? ⟨br, or_, none⟩ = some u0 from hu0)
 have HR1 := hide (show w3.cell? ⟨br, or_ + 1, none⟩ = some u1 from hu1)
 have HR2 := hide (show w3.cell? ⟨br, or_ + 2, none⟩ = some u2 from hu2)
 replace H2 := hide (H2.out.below hb3 H2.out.lt)
 replace H4 := hide (H4.out.below hb3 H4.out.lt)
 replace HB := hide (HB.out.trans (hb3.mono HB.out.size))
 have hz_hb3 := hb3.size
 clear hb3 ht3 hs3 hsm hrd h31 h33 hcr hu0 hu1 hu2 hbu0 hbu1 hbu2 ho3
 have HLX := hide (show LenE (⟨a, CapD.none_, CapD.none_, false⟩ : EntD) ∧ LenW (⟨a, CapD.none_, CapD.none_, false⟩ : EntD) from ⟨⟨rfl, rfl⟩, ⟨rfl, rfl⟩⟩)
 have HBE := hide (show Tryd.prog.built 45 [(0, .string (strOfNums a))] = some (entC (⟨a, CapD.none_, CapD.none_, false⟩ : EntD) (.slice none 0 0) (.slice none 0 0)).toArray from built_entN _)
 obtain ⟨g8, HG8⟩ : ∃ k, Hid (w3.heap.size = k) := ⟨_, hide rfl⟩
 have hg8 : g8 ≤ w3.heap.size ∧ w3.heap.size ≤ g8 := by have := HG8.out; omega
 have hg48 : g4 < g8 := by have := H4.out.lt; omega
 have HBase := hide (Below.refl w3.heap.size w3)
 go_wp2_with (first
  | go_skip
  | (refine wpList_val_ rfl (exec_load_one _ _ rfl br or_ rfl _ Tryd.underlying26 rfl _ HR0.out) ?_)
  | (refine wpList_to_string rfl _ rfl w3.heap.size u0 a rfl HU0.out ?_)
  | (refine wpList_st_build1 45 0 _ rfl rfl (.string (strOfNums a)) rfl (entC (⟨a, CapD.none_, CapD.none_, false⟩ : EntD) (.slice none 0 0) (.slice none 0 0)) HBE.out ?_)
  | (refine wpList_alloc_blk rfl 45 rfl _ zero_ent ?_; intro w4 hb4 hw4 hs4; rw [HG8.out] at hb4; try rw [HG8.out]; have H8 := hide hb4; replace H2 := hide (H2.out.below hw4 H2.out.lt); replace H4 := hide (H4.out.below hw4 H4.out.lt); replace HBase := hide hw4; replace HB := hide (HB.out.trans (hw4.mono HB.out.size)); have hz4 := hw4.size; clear hb4 hw4 hs4)
  | (refine wpList_st_putAll _ _ _ rfl rfl rfl H8.out (entC (⟨a, CapD.none_, CapD.none_, false⟩ : EntD) (.slice none 0 0) (.slice none 0 0)) rfl (by rw [ent_lenL none_LE.1 none_LE.2, ent_lenL HLX.out.1 HLX.out.2]) (size_entL HLX.out.1 HLX.out.2) (ent_oneL rfl rfl) ?_; intro w5 hbs hgs hss; replace H2 := hide (H2.out.grown hgs (by intro e; injection e; omega)); replace H4 := hide (H4.out.grown hgs (by intro e; injection e; omega)); replace HBase := hide (HBase.out.grown hgs HBase.out.size (by intro k hk; injection hk; omega)); replace HB := hide (HB.out.grown hgs HB.out.size (by intro k hk; injection hk; omega)); replace H8 := hide hbs; have hz5 := hss; have HR1w := hide ((HBase.out.cell (p := ⟨br, or_ + 1, none⟩) hbrb).trans HR1.out); clear hbs hgs hss)
  | (refine wpList_val_ rfl (exec_load_one _ _ rfl br (or_ + 1) rfl _ Tryd.underlying26 rfl _ HR1w.out) ?_)
  | (refine wpList_to_string rfl _ rfl w3.heap.size u1 b rfl (HU1.out.below HBase.out (Nat.le_refl _)) ?_))
 refine (Parse_u b w5 HBY.out.2.1 ((HT.out.below HB.out (Nat.le_refl _)).more HB.out.size) hlb).mono ?_
 rintro e w6 ⟨r, l6, er, rfl, hrw, hr6, her, hb6⟩
 have HRW := hide hrw
 have HL6 := hide (hr6.more HB.out.size)
 have HER := hide her
 replace HBase := hide (HBase.out.trans (hb6.mono HBase.out.size))
 replace H2 := hide (H2.out.below hb6 H2.out.lt)
 replace H4 := hide (H4.out.below hb6 H4.out.lt)
 replace H8 := hide (H8.out.below hb6 H8.out.lt)
 replace HB := hide (HB.out.trans (hb6.mono HB.out.size))
 have hz_hb6 := hb6.size
 clear hb6 hrw hr6 her
 rcases HER.out with ⟨hp, he0⟩ | ⟨hp, he2⟩
 case inr =>
  subst he2
  have HNO := hide (show OF = none by rw [HOFE.out, hp]; rfl)
  clear hp HER
  go_wp2_with (first
   | go_skip
   | (refine wpList_store_blk rfl 28 _ _ rfl g8 1 (capCells r l6) rfl rfl _ _ H8.out (by rw [ent_lenL HLX.out.1 HLX.out.2, cc_len l6 HRW.out.keyL HRW.out.fpL]; omega) (size_capL HRW.out.keyL HRW.out.fpL) (cap_ones (bs_one_ HL6.out.reads)) ?_; intro w7 hbs hgs hss; rw [ent_setRead HLX.out.1 r l6 HRW.out.keyL HRW.out.fpL] at hbs; replace H2 := hide (H2.out.grown hgs (by intro e; injection e; omega)); replace H4 := hide (H4.out.grown hgs (by intro e; injection e; omega)); replace HL6 := hide (HL6.out.pastE H8.out (by kernel_rfl) hgs); replace HBase := hide (HBase.out.grown hgs HBase.out.size (by intro k hk; injection hk; omega)); replace HB := hide (HB.out.grown hgs HB.out.size (by intro k hk; injection hk; omega)); replace H8 := hide hbs; have hz7 := hss; clear hbs hgs hss)
   | (refine wpList_st_build _ _ rfl rfl _ built_ent0 ?_)
   | (refine wpList_st_putAll _ _ _ rfl rfl rfl H4.out (entC EntD.none_ (.slice none 0 0) (.slice none 0 0)) rfl rfl HSZ0.out HON0.out ?_; intro wq hbs hgs hss; replace H4 := hide hbs; replace HB := hide (HB.out.grown hgs HB.out.size (by intro k hk; injection hk; omega)); clear hbs hgs)
   | (exact bodyPost_ret (results_st rfl _ _ g4 _ _ rfl H4.out _ Tryd.underlying45 rfl HSZ0.out _ rfl) rfl (.inr ⟨HNO.out, rfl, HB.out⟩)))
 subst he0
 have HOF2 := hide (show OF = if qw && decide (0 < d.length) then (parseF (kidF key a d)).map (fun x => (⟨a, r, x, true⟩ : EntD)) else some ⟨a, r, CapD.none_, false⟩ by rw [HOFE.out, hp]; rfl)
 clear hp HER HOFE
 have HW1 := hide (show EntD.Wf ({ (⟨a, CapD.none_, CapD.none_, false⟩ : EntD) with read := r } : EntD) from ⟨HBY.out.1, HRW.out, CapD.none_wf⟩)
 obtain ⟨A2, c2, hu2e, _, _, _⟩ := HU2.out.open_
 obtain ⟨nd, HND⟩ : ∃ k, Hid (d.length = k) := ⟨_, hide rfl⟩
 rw [HND.out] at hu2e
 obtain ⟨qd, HQD⟩ : ∃ q, Hid (decide ((0 : Int) < (nd : Int)) = q) := ⟨_, hide rfl⟩
 have HQD2 := hide (show decide (0 < d.length) = qd by rw [← HQD.out, HND.out, Bool.eq_iff_iff, decide_eq_true_eq, decide_eq_true_eq]; omega)
 rw [HQD2.out] at HOF2
 subst hu2e
 clear HQD2
 rcases qw with _ | _
 case false =>
  have HYES := hide (show OF = some ({ (⟨a, CapD.none_, CapD.none_, false⟩ : EntD) with read := r } : EntD) by rw [HOF2.out]; rfl)
  have HSZE := hide (show (Tryd.prog.info? 45).map (·.size) = some (entC ({ (⟨a, CapD.none_, CapD.none_, false⟩ : EntD) with read := r } : EntD) l6 (.slice none 0 0)).length from size_entL HW1.out.lens.1 HW1.out.lens.2)
  have HLNE := hide (show (entC EntD.none_ (.slice none 0 0) (.slice none 0 0)).length = (entC ({ (⟨a, CapD.none_, CapD.none_, false⟩ : EntD) with read := r } : EntD) l6 (.slice none 0 0)).length by rw [ent_lenL none_LE.1 none_LE.2, ent_lenL HW1.out.lens.1 HW1.out.lens.2])
  have HONE := hide (ent_oneL (e := ({ (⟨a, CapD.none_, CapD.none_, false⟩ : EntD) with read := r } : EntD)) (y := (.slice none 0 0)) (bs_one_ HL6.out.reads) rfl)
  go_wp2_with (first
   | go_skip
   | (refine wpList_store_blk rfl 28 _ _ rfl g8 1 (capCells r l6) rfl rfl _ _ H8.out (by rw [ent_lenL HLX.out.1 HLX.out.2, cc_len l6 HRW.out.keyL HRW.out.fpL]; omega) (size_capL HRW.out.keyL HRW.out.fpL) (cap_ones (bs_one_ HL6.out.reads)) ?_; intro w7 hbs hgs hss; rw [ent_setRead HLX.out.1 r l6 HRW.out.keyL HRW.out.fpL] at hbs; replace H2 := hide (H2.out.grown hgs (by intro e; injection e; omega)); replace H4 := hide (H4.out.grown hgs (by intro e; injection e; omega)); replace HL6 := hide (HL6.out.pastE H8.out (by kernel_rfl) hgs); replace HBase := hide (HBase.out.grown hgs HBase.out.size (by intro k hk; injection hk; omega)); replace HB := hide (HB.out.grown hgs HB.out.size (by intro k hk; injection hk; omega)); replace H8 := hide hbs; have hz7 := hss; have HR2w := hide ((HBase.out.cell (p := ⟨br, or_ + 2, none⟩) hbrb).trans HR2.out); clear hbs hgs hss)
   | (refine wpList_cap_int _ rfl 0 rfl rfl H2.out kd HX0.out ?_)
   | (refine wpList_val_ rfl (exec_eql_i64 _ _ _ _ rfl kd 7 rfl rfl _ HQW.out) ?_)
   | (refine wpList_st_all 45 _ rfl rfl rfl H8.out _ Tryd.underlying45 rfl HSZE.out ?_)
   | (refine wpList_st_putAll _ _ _ rfl rfl rfl H4.out (entC ({ (⟨a, CapD.none_, CapD.none_, false⟩ : EntD) with read := r } : EntD) l6 (.slice none 0 0)) rfl HLNE.out HSZE.out HONE.out ?_; intro wq hbs hgs hss; replace HL6 := hide (HL6.out.pastE H4.out (by kernel_rfl) hgs); replace H4 := hide hbs; replace HB := hide (HB.out.grown hgs HB.out.size (by intro k hk; injection hk; omega)); clear hbs hgs)
   | (exact bodyPost_ret (results_st rfl _ _ g4 _ _ rfl H4.out _ Tryd.underlying45 rfl HSZE.out _ rfl) rfl (.inl ⟨({ (⟨a, CapD.none_, CapD.none_, false⟩ : EntD) with read := r } : EntD), l6, (.slice none 0 0), HYES.out, rfl, HL6.out.more (by omega), RowB.nil_ _ _, HW1.out, HB.out⟩)))
 rcases qd with _ | _
 case false =>
  have HYES := hide (show OF = some ({ (⟨a, CapD.none_, CapD.none_, false⟩ : EntD) with read := r } : EntD) by rw [HOF2.out]; rfl)
  have HSZE := hide (show (Tryd.prog.info? 45).map (·.size) = some (entC ({ (⟨a, CapD.none_, CapD.none_, false⟩ : EntD) with read := r } : EntD) l6 (.slice none 0 0)).length from size_entL HW1.out.lens.1 HW1.out.lens.2)
  have HLNE := hide (show (entC EntD.none_ (.slice none 0 0) (.slice none 0 0)).length = (entC ({ (⟨a, CapD.none_, CapD.none_, false⟩ : EntD) with read := r } : EntD) l6 (.slice none 0 0)).length by rw [ent_lenL none_LE.1 none_LE.2, ent_lenL HW1.out.lens.1 HW1.out.lens.2])
  have HONE := hide (ent_oneL (e := ({ (⟨a, CapD.none_, CapD.none_, false⟩ : EntD) with read := r } : EntD)) (y := (.slice none 0 0)) (bs_one_ HL6.out.reads) rfl)
  go_wp2_with (first
   | go_skip
   | (refine wpList_store_blk rfl 28 _ _ rfl g8 1 (capCells r l6) rfl rfl _ _ H8.out (by rw [ent_lenL HLX.out.1 HLX.out.2, cc_len l6 HRW.out.keyL HRW.out.fpL]; omega) (size_capL HRW.out.keyL HRW.out.fpL) (cap_ones (bs_one_ HL6.out.reads)) ?_; intro w7 hbs hgs hss; rw [ent_setRead HLX.out.1 r l6 HRW.out.keyL HRW.out.fpL] at hbs; replace H2 := hide (H2.out.grown hgs (by intro e; injection e; omega)); replace H4 := hide (H4.out.grown hgs (by intro e; injection e; omega)); replace HL6 := hide (HL6.out.pastE H8.out (by kernel_rfl) hgs); replace HBase := hide (HBase.out.grown hgs HBase.out.size (by intro k hk; injection hk; omega)); replace HB := hide (HB.out.grown hgs HB.out.size (by intro k hk; injection hk; omega)); replace H8 := hide hbs; have hz7 := hss; have HR2w := hide ((HBase.out.cell (p := ⟨br, or_ + 2, none⟩) hbrb).trans HR2.out); clear hbs hgs hss)
   | (refine wpList_cap_int _ rfl 0 rfl rfl H2.out kd HX0.out ?_)
   | (refine wpList_val_ rfl (exec_eql_i64 _ _ _ _ rfl kd 7 rfl rfl _ HQW.out) ?_)
   | (refine wpList_val_ rfl (exec_load_one _ _ rfl br (or_ + 2) rfl _ Tryd.underlying26 rfl _ HR2w.out) ?_)
   | (refine wpList_val_ rfl (exec_gtr_i64 _ _ _ _ rfl (nd : Int) 0 rfl rfl _ HQD.out) ?_)
   | (refine wpList_st_all 45 _ rfl rfl rfl H8.out _ Tryd.underlying45 rfl HSZE.out ?_)
   | (refine wpList_st_putAll _ _ _ rfl rfl rfl H4.out (entC ({ (⟨a, CapD.none_, CapD.none_, false⟩ : EntD) with read := r } : EntD) l6 (.slice none 0 0)) rfl HLNE.out HSZE.out HONE.out ?_; intro wq hbs hgs hss; replace HL6 := hide (HL6.out.pastE H4.out (by kernel_rfl) hgs); replace H4 := hide hbs; replace HB := hide (HB.out.grown hgs HB.out.size (by intro k hk; injection hk; omega)); clear hbs hgs)
   | (exact bodyPost_ret (results_st rfl _ _ g4 _ _ rfl H4.out _ Tryd.underlying45 rfl HSZE.out _ rfl) rfl (.inl ⟨({ (⟨a, CapD.none_, CapD.none_, false⟩ : EntD) with read := r } : EntD), l6, (.slice none 0 0), HYES.out, rfl, HL6.out.more (by omega), RowB.nil_ _ _, HW1.out, HB.out⟩)))
 have HOF3 := hide (show OF = (parseF (kidF key a d)).map (fun x => (⟨a, r, x, true⟩ : EntD)) by rw [HOF2.out]; rfl)
 have HKB := hide (kidF_bytes key a HBY.out.2.2)
 have HKL := hide (show (kidF key a d).length ≤ 16000 by rw [kidF_len]; exact hld)
 obtain ⟨KD, HKDE⟩ : ∃ x, Hid (kidF key a d = x) := ⟨_, hide rfl⟩
 rw [HKDE.out] at HOF3 HKB HKL
 have HLY := hide (show LenE ({ (⟨a, CapD.none_, CapD.none_, false⟩ : EntD) with read := r } : EntD) ∧ LenW ({ (⟨a, CapD.none_, CapD.none_, false⟩ : EntD) with read := r } : EntD) from HW1.out.lens)
 have HLY2 := hide (show LenE ({ ({ (⟨a, CapD.none_, CapD.none_, false⟩ : EntD) with read := r } : EntD) with has := true } : EntD) ∧ LenW ({ ({ (⟨a, CapD.none_, CapD.none_, false⟩ : EntD) with read := r } : EntD) with has := true } : EntD) from ⟨⟨HRW.out.keyL, HRW.out.fpL⟩, ⟨rfl, rfl⟩⟩)
 have HX0N := hide (fun (u v : Value) => show (entC ({ ({ (⟨a, CapD.none_, CapD.none_, false⟩ : EntD) with read := r } : EntD) with has := true } : EntD) u v)[0]? = some (.string (strOfNums a)) from ent_name)
 go_upto_region 11 with (first
  | go_skip
  | (refine wpList_store_blk rfl 28 _ _ rfl g8 1 (capCells r l6) rfl rfl _ _ H8.out (by rw [ent_lenL HLX.out.1 HLX.out.2, cc_len l6 HRW.out.keyL HRW.out.fpL]; omega) (size_capL HRW.out.keyL HRW.out.fpL) (cap_ones (bs_one_ HL6.out.reads)) ?_; intro w7 hbs hgs hss; rw [ent_setRead HLX.out.1 r l6 HRW.out.keyL HRW.out.fpL] at hbs; replace H2 := hide (H2.out.grown hgs (by intro e; injection e; omega)); replace H4 := hide (H4.out.grown hgs (by intro e; injection e; omega)); replace HL6 := hide (HL6.out.pastE H8.out (by kernel_rfl) hgs); replace HBase := hide (HBase.out.grown hgs HBase.out.size (by intro k hk; injection hk; omega)); replace HB := hide (HB.out.grown hgs HB.out.size (by intro k hk; injection hk; omega)); replace H8 := hide hbs; have hz7 := hss; have HR2w := hide ((HBase.out.cell (p := ⟨br, or_ + 2, none⟩) hbrb).trans HR2.out); clear hbs hgs hss)
  | (refine wpList_cap_int _ rfl 0 rfl rfl H2.out kd HX0.out ?_)
  | (refine wpList_val_ rfl (exec_eql_i64 _ _ _ _ rfl kd 7 rfl rfl _ HQW.out) ?_)
  | (refine wpList_val_ rfl (exec_load_one _ _ rfl br (or_ + 2) rfl _ Tryd.underlying26 rfl _ HR2w.out) ?_)
  | (refine wpList_val_ rfl (exec_gtr_i64 _ _ _ _ rfl (nd : Int) 0 rfl rfl _ HQD.out) ?_)
  | (refine wpList_st_put 4 _ _ rfl 107 rfl rfl H8.out (by rw [ent_lenL HLY.out.1 HLY.out.2]; omega) (.bool true) rfl rfl (by kernel_rfl) ?_; intro w8 hbs hgs hss; rw [ent_setHas HLY.out.1 HLY.out.2 true] at hbs; replace H2 := hide (H2.out.grown hgs (by intro e; injection e; omega)); replace H4 := hide (H4.out.grown hgs (by intro e; injection e; omega)); replace HL6 := hide (HL6.out.pastE H8.out (by kernel_rfl) hgs); replace HBase := hide (HBase.out.grown hgs HBase.out.size (by intro k hk; injection hk; omega)); replace HB := hide (HB.out.grown hgs HB.out.size (by intro k hk; injection hk; omega)); replace H8 := hide hbs; have hz8 := hss; clear hbs hgs hss))
 try simp only [Act.put, s1_, s2_, s3_]
 have hg2W : g2 < w8.heap.size := H2.out.lt
 have hbrW : br < w8.heap.size := Nat.lt_of_lt_of_le hbrb HBase.out.size
 have HCC := hide (show w8.rangeAt g2 0 (capCells c lit) from blk_range H2.out.blk 0 _ (fun j u hu => by rw [Nat.zero_add]; exact hu))
 have HSC := hide (size_capL (c := c) (l := lit) HC.out.keyL HC.out.fpL)
 have HR2x := hide ((HBase.out.cell (p := ⟨br, or_ + 2, none⟩) hbrb).trans HR2.out)
 have H8p := H8
 go_cut [9] from 47 to 58 (fun v9 wx => ∃ (x : CapD) (l9 : Value) (er2 : Int), v9 = .int .i64 er2 ∧ x.Wf ∧ RowB wx w.heap.size l9 x.lit ∧ ((parseF KD = some x ∧ er2 = 0) ∨ (parseF KD = none ∧ er2 = 2)) ∧ Blk wx g8 45 (entC ({ ({ ({ (⟨a, CapD.none_, CapD.none_, false⟩ : EntD) with read := r } : EntD) with has := true } : EntD) with write := x } : EntD) l6 l9) ∧ w8.grownBy wx (some g8))
 case first =>
  refine wp_region_held_drew (S := fun w' => w8.grownBy w' (some g8)) (by kernel_rfl) (World.grownBy.drewG _ _) (fun hHeld => ?_)
  replace H8 := hide H8.out.drew
  refine take_e 47 (i := 0) (v := .agg (capCells c lit).toArray) rfl (by kernel_rfl) (Or.inl ⟨by kernel_rfl, fun w' hS => exec_loadAll _ _ rfl g2 0 rfl _ _ (fun j u hu => (World.cell?_of_block (hS.block g2 hg2W (fun e => by injection e; omega))).trans (HCC.out j u hu)) Tryd.underlying28 rfl HSC.out⟩) hHeld ?_
  try simp only [Act.put, s1_, s2_, s3_]
  refine take_e 48 (i := 1) (v := .pointer (some ⟨g8, 0, none⟩)) rfl (by kernel_rfl) (Or.inl ⟨by kernel_rfl, fun w' hS => exec_fieldG _ _ 0 0 rfl g8 0 rfl (by kernel_rfl) _ (by first | rfl | omega)⟩) hHeld ?_
  try simp only [Act.put, s1_, s2_, s3_]
  refine take_e 50 (i := 3) (v := .slice (some ⟨br, or_, none⟩) 3 c3) rfl (by kernel_rfl) (Or.inl ⟨by kernel_rfl, fun w' hS => exec_move _ rfl (.slice (some ⟨br, or_, none⟩) 3 c3) rfl⟩) hHeld ?_
  try simp only [Act.put, s1_, s2_, s3_]
  refine take_e 51 (i := 4) (v := .pointer (some ⟨br, or_ + 2, none⟩)) rfl (by kernel_rfl) (Or.inl ⟨by kernel_rfl, fun w' hS => exec_indexG _ _ _ rfl _ 3 c3 br or_ 1 2 rfl rfl rfl (by omega) (by kernel_rfl) _ (by omega)⟩) hHeld ?_
  try simp only [Act.put, s1_, s2_, s3_]
  refine take_e 52 (i := 5) (v := .slice A2 nd c2) rfl (by kernel_rfl) (Or.inl ⟨by kernel_rfl, fun w' hS => exec_load_one _ _ rfl br (or_ + 2) rfl _ Tryd.underlying26 rfl _ ((World.cell?_of_block (hS.block br hbrW (fun e => by injection e; omega))).trans HR2x.out)⟩) hHeld ?_
  try simp only [Act.put, s1_, s2_, s3_]
  refine wpAnyH_ready (rs := [2]) (by kernel_rfl) (by simp) (AllReadyH.cons rfl (fun K hK => ?_) AllReadyH.nil)
  rw [if_pos (by kernel_rfl)]
  refine wp_valueD 49 rfl (.string (strOfNums a)) (exec_load_one _ _ rfl g8 0 rfl _ Tryd.underlying9 rfl _ ((H8.out.cell _).trans (HX0N.out _ _))) ?_
  refine hK.out _ _ hHeld (fun hHeld => ?_)
  clear hK K
  try simp only [Act.put, s1_, s2_, s3_]
  refine wpAnyH_ready (rs := [6]) (by kernel_rfl) (by simp) (AllReadyH.cons rfl (fun K hK => ?_) AllReadyH.nil)
  rw [if_pos (by kernel_rfl)]
  try go_simp
  refine (HKID.out _ a d _ HBY.out.1 hla ((HU2.out.below (HBase.out.grown hHeld HBase.out.size (by intro k hk; injection hk; omega)) (Nat.le_refl _)).more (by have := hHeld.size; omega)) HBY.out.2.2 hld ((HT.out.below (HB.out.grown hHeld HB.out.size (by intro k hk; injection hk; omega)) (Nat.le_refl _)).more (by have := hHeld.size; omega))).mono ?_
  rintro e w53 ⟨v53, rfl, ho53, hb53⟩
  rw [HKDE.out] at ho53
  have HV53 := hide ho53.reads
  replace H8 := hide (H8.out.below hb53 H8.out.lt)
  have HX := hide (World.grownBy.transG hHeld (Below.toGrown hb53 (some g8)))
  clear ho53 hb53
  refine hK.out _ _ HX.out (fun hHeld => ?_)
  clear HX hK K
  try simp only [Act.put, s1_, s2_, s3_]
  refine wpAnyH_ready (rs := [7]) (by kernel_rfl) (by simp) (AllReadyH.cons rfl (fun K hK => ?_) AllReadyH.nil)
  rw [if_pos (by kernel_rfl)]
  refine wp_to_stringD 54 rfl _ rfl _ v53 KD rfl HV53.out ?_
  refine hK.out _ _ hHeld (fun hHeld => ?_)
  clear hK K
  try simp only [Act.put, s1_, s2_, s3_]
  refine wpAnyH_ready (rs := [8]) (by kernel_rfl) (by simp) (AllReadyH.cons rfl (fun K hK => ?_) AllReadyH.nil)
  rw [if_pos (by kernel_rfl)]
  try go_simp
  refine (Parse_u KD _ HKB.out ((HT.out.below (HB.out.grown hHeld HB.out.size (by intro k hk; injection hk; omega)) (Nat.le_refl _)).more (by have := hHeld.size; omega)) HKL.out).mono ?_
  rintro e w55 ⟨x, l9, er2, rfl, hxw, hr9, her2, hb55⟩
  have HXW := hide hxw
  have HL9 := hide (hr9.more (show w.heap.size ≤ _ by have := hHeld.size; omega))
  have HER2 := hide her2
  replace H8 := hide (H8.out.below hb55 H8.out.lt)
  have HX := hide (World.grownBy.transG hHeld (Below.toGrown hb55 (some g8)))
  clear hxw hr9 her2 hb55
  refine hK.out _ _ HX.out (fun hHeld => ?_)
  clear HX hK K
  try simp only [Act.put, s1_, s2_, s3_]
  refine take_e 46 (i := 9) (v := .tuple #[capV x l9, .int .i64 er2]) rfl (by kernel_rfl) (Or.inl ⟨by kernel_rfl, fun w' hS => exec_move _ rfl (.tuple #[capV x l9, .int .i64 er2]) rfl⟩) hHeld ?_
  try simp only [Act.put, s1_, s2_, s3_]
  refine take_e 56 (i := 10) (v := capV x l9) rfl (by kernel_rfl) (Or.inl ⟨by kernel_rfl, fun w' hS => exec_extractG _ rfl _ rfl _ rfl⟩) hHeld ?_
  try simp only [Act.put, s1_, s2_, s3_]
  refine take_e 57 (i := 11) (v := .int .i64 er2) rfl (by kernel_rfl) (Or.inl ⟨by kernel_rfl, fun w' hS => exec_extractG _ rfl _ rfl _ rfl⟩) hHeld ?_
  try simp only [Act.put, s1_, s2_, s3_]
  refine take_e 58 (i := 12) (v := .pointer (some ⟨g8, 54, none⟩)) rfl (by kernel_rfl) (Or.inl ⟨by kernel_rfl, fun w' hS => exec_fieldG _ _ 2 54 rfl g8 0 rfl (by kernel_rfl) _ (by first | rfl | omega)⟩) hHeld ?_
  try simp only [Act.put, s1_, s2_, s3_]
  refine wpAnyH_ready (rs := [13]) (by kernel_rfl) (by simp) (AllReadyH.cons rfl (fun K hK => ?_) AllReadyH.nil)
  rw [if_pos (by kernel_rfl)]
  refine wp_store_blkD 28 _ _ rfl rfl g8 54 (capCells x l9) rfl rfl _ _ H8.out (by rw [ent_lenL HLY2.out.1 HLY2.out.2, cc_len l9 HXW.out.keyL HXW.out.fpL]; omega) (size_capL HXW.out.keyL HXW.out.fpL) (cap_ones (bs_one_ HL9.out.reads)) ?_
  intro w58 hbs hgs hss
  rw [ent_setWrite HLY2.out.1 HLY2.out.2 x l9 HXW.out.keyL HXW.out.fpL] at hbs
  replace HL9 := hide (HL9.out.pastE H8.out (by kernel_rfl) hgs)
  replace H8 := hide hbs
  have HX := hide (World.grownBy.transG hHeld hgs)
  clear hbs hgs hss
  refine hK.out _ _ HX.out (fun hHeld => ?_)
  clear HX hK K
  try simp only [Act.put, s1_, s2_, s3_]
  refine take_e 9 (i := 14) (v := .int .i64 er2) rfl (by kernel_rfl) (Or.inl ⟨by kernel_rfl, fun w' hS => exec_assign _ rfl (.int .i64 er2) rfl⟩) hHeld ?_
  try simp only [Act.put, s1_, s2_, s3_]
  refine wpAnyH_done (by kernel_rfl) ?_ _
  go_wp2_with fail
  go_meet
  exact ⟨x, l9, er2, rfl, HXW.out, HL9.out, HER2.out, H8.out, hHeld⟩
 obtain ⟨x, l9, er2, rfl, hxw, hl9, her2, hb8, hHeld⟩ := hcut
 have HXW := hide hxw
 have HL9 := hide hl9
 have H8n := hide hb8
 replace H2 := hide (H2.out.grown hHeld (by intro e; injection e; omega))
 replace H4 := hide (H4.out.grown hHeld (by intro e; injection e; omega))
 replace HL6 := hide (HL6.out.pastE H8p.out (by kernel_rfl) hHeld)
 replace HB := hide (HB.out.grown hHeld HB.out.size (by intro k hk; injection hk; omega))
 have hzc := hHeld.size
 clear hxw hl9 hb8 hHeld H8 H8p
 have H8 := H8n
 rcases her2 with ⟨hp, he0⟩ | ⟨hp, he2⟩
 case inr =>
  subst he2
  have HNO := hide (show OF = none by rw [HOF3.out, hp]; rfl)
  clear hp
  go_wp2_with (first
   | go_skip
   | (refine wpList_st_build _ _ rfl rfl _ built_ent0 ?_)
   | (refine wpList_st_putAll _ _ _ rfl rfl rfl H4.out (entC EntD.none_ (.slice none 0 0) (.slice none 0 0)) rfl rfl HSZ0.out HON0.out ?_; intro wq hbs hgs hss; replace H4 := hide hbs; replace HB := hide (HB.out.grown hgs HB.out.size (by intro k hk; injection hk; omega)); clear hbs hgs)
   | (exact bodyPost_ret (results_st rfl _ _ g4 _ _ rfl H4.out _ Tryd.underlying45 rfl HSZ0.out _ rfl) rfl (.inr ⟨HNO.out, rfl, HB.out⟩)))
 subst he0
 have HYES := hide (show OF = some ({ ({ ({ (⟨a, CapD.none_, CapD.none_, false⟩ : EntD) with read := r } : EntD) with has := true } : EntD) with write := x } : EntD) by rw [HOF3.out, hp]; rfl)
 clear hp
 have HW3 := hide (show EntD.Wf ({ ({ ({ (⟨a, CapD.none_, CapD.none_, false⟩ : EntD) with read := r } : EntD) with has := true } : EntD) with write := x } : EntD) from ⟨HBY.out.1, HRW.out, HXW.out⟩)
 have HSZE := hide (show (Tryd.prog.info? 45).map (·.size) = some (entC ({ ({ ({ (⟨a, CapD.none_, CapD.none_, false⟩ : EntD) with read := r } : EntD) with has := true } : EntD) with write := x } : EntD) l6 l9).length from size_entL HW3.out.lens.1 HW3.out.lens.2)
 have HLNE := hide (show (entC EntD.none_ (.slice none 0 0) (.slice none 0 0)).length = (entC ({ ({ ({ (⟨a, CapD.none_, CapD.none_, false⟩ : EntD) with read := r } : EntD) with has := true } : EntD) with write := x } : EntD) l6 l9).length by rw [ent_lenL none_LE.1 none_LE.2, ent_lenL HW3.out.lens.1 HW3.out.lens.2])
 have HONE := hide (ent_oneL (e := ({ ({ ({ (⟨a, CapD.none_, CapD.none_, false⟩ : EntD) with read := r } : EntD) with has := true } : EntD) with write := x } : EntD)) (bs_one_ HL6.out.reads) (bs_one_ HL9.out.reads))
 go_wp2_with (first
  | go_skip
  | (refine wpList_st_all 45 _ rfl rfl rfl H8.out _ Tryd.underlying45 rfl HSZE.out ?_)
  | (refine wpList_st_putAll _ _ _ rfl rfl rfl H4.out (entC ({ ({ ({ (⟨a, CapD.none_, CapD.none_, false⟩ : EntD) with read := r } : EntD) with has := true } : EntD) with write := x } : EntD) l6 l9) rfl HLNE.out HSZE.out HONE.out ?_; intro wq hbs hgs hss; replace HL6 := hide (HL6.out.pastE H4.out (by kernel_rfl) hgs); replace HL9 := hide (HL9.out.pastE H4.out (by kernel_rfl) hgs); replace H4 := hide hbs; replace HB := hide (HB.out.grown hgs HB.out.size (by intro k hk; injection hk; omega)); clear hbs hgs)
  | (exact bodyPost_ret (results_st rfl _ _ g4 _ _ rfl H4.out _ Tryd.underlying45 rfl HSZE.out _ rfl) rfl (.inl ⟨({ ({ ({ (⟨a, CapD.none_, CapD.none_, false⟩ : EntD) with read := r } : EntD) with has := true } : EntD) with write := x } : EntD), l6, l9, HYES.out, rfl, HL6.out.more (by omega), HL9.out, HW3.out, HB.out⟩)))
end Go.Proofs.YthdjgebbjogmiaaDoor
