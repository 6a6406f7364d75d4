/- dirs.fresh: an entry in new memory. Condition: literals of at most a million bytes.
caps.short: the key that a tag and a key make; rows of the call's own from a literal of rows. Condition: the table of powers of ten stands. -/
import Derived.Test.YthdjgebbjogmiaaDoorJoin18
import Derived.Test.YthdjgebbjogmiaaDoorJoin17
import Derived.Test.YthdjgebbjogmiaaDoorJoin4
import Derived.Test.YthdjgebbjogmiaaDoorJoin1
import Derived.Test.YthdjgebbjogmiaaDoorJoin12
set_option linter.unusedVariables false
set_option linter.unusedSimpArgs false
namespace Go.Proofs.YthdjgebbjogmiaaDoor
open Go Go.RowKit
set_option linter.unusedVariables false
set_option linter.unusedSimpArgs false
set_option maxRecDepth 100000
structure LenE (e : EntD) : Prop where
 rk : e.read.key.length = 16
 rf : e.read.fp.length = 32
structure LenW (e : EntD) : Prop where
 wk : e.write.key.length = 16
 wf : e.write.fp.length = 32
section
variable {e : EntD} {x y : Value}
theorem ent_litR (h1 : LenE e) (h2 : LenW e) : (entC e x y)[53]? = some x := by
 unfold entC
 rw [List.getElem?_cons_succ, List.getElem?_append_left (by rw [cc_len x h1.rk h1.rf]; omega)]
 exact cc_lit h1.rk h1.rf
theorem ent_litW (h1 : LenE e) (h2 : LenW e) : (entC e x y)[106]? = some y := by
 unfold entC
 rw [List.getElem?_cons_succ, List.getElem?_append_right (by rw [cc_len x h1.rk h1.rf]; omega), cc_len x h1.rk h1.rf, List.getElem?_append_left (by rw [cc_len y h2.wk h2.wf]; omega)]
 exact cc_lit h2.wk h2.wf
theorem ent_putR (h1 : LenE e) (h2 : LenW e) (v : Value) : (entC e x y).set 53 v = entC e v y := by
 unfold entC
 rw [List.set_cons_succ, List.set_append_left _ _ (by rw [cc_len x h1.rk h1.rf]; omega), cc_putLit h1.rk h1.rf]
theorem ent_putW (h1 : LenE e) (h2 : LenW e) (v : Value) : (entC e x y).set 106 v = entC e x v := by
 unfold entC
 rw [List.set_cons_succ, List.set_append_right _ _ (by rw [cc_len x h1.rk h1.rf]; omega), cc_len x h1.rk h1.rf, List.set_append_left _ _ (by rw [cc_len y h2.wk h2.wf]; omega), cc_putLit h2.wk h2.wf]
theorem ent_lenL (h1 : LenE e) (h2 : LenW e) : (entC e x y).length = 108 := by
 simp [entC, cc_len x h1.rk h1.rf, cc_len y h2.wk h2.wf]
theorem ent_oneL (hx : x.oneCell' = true) (hy : y.oneCell' = true) : ∀ u ∈ entC e x y, u.oneCell' = true := fun u hu => by
 unfold entC at hu
 rcases List.mem_cons.1 hu with rfl | hu
 · rfl
 rcases List.mem_append.1 hu with hu | hu
 · exact cc_ones hx u hu
 rcases List.mem_append.1 hu with hu | hu
 · exact cc_ones hy u hu
 · obtain rfl := List.mem_singleton.1 hu
   rfl
end
section
variable {o : Oper} {a : Act} {w : World} {K : Act → World → Prop} {Q : Exit → Act → World → Prop} {g : Nat} {e : EntD} {u v : Value} {t : TypeId}
theorem wp_valueD (d : Nat) (hd : o.dst = some d) (v : Value) (h0 : (execOp a.eval o).run Tryd.prog w = .ok (.value v) w) (h : K (a.put (some d) v) w) : o.wp Tryd.prog a w K Q :=
 wp_value v h0 (by rw [hd]; exact h)
theorem wp_ent_putRD (x y : Operand) (ho : o.op = .store 26 x y) (hd : o.dst = none) (hx : a.eval x = .pointer (some ⟨g, 53, none⟩)) (hB : Blk w g t (entC e u v)) (h1 : LenE e) (h2 : LenW e) (l' : Value) (hy : a.eval y = l') (hl : l'.oneCell' = true)
 (hK : ∀ w', Blk w' g t (entC e l' v) → w.grownBy w' (some g) → K a w') : o.wp Tryd.prog a w K Q := by
 have hg := grown_setCells (g := g) [l'] w 53
 refine wp_store_one 26 x y ho g 53 hx _ hy (by rw [hB.cell, ent_litR h1 h2]; rfl) (hB.frozen _) hl (by kernel_rfl) ?_
 rw [hd]
 exact hK _ (by rw [← ent_putR (x := u) h1 h2 l']; exact hB.set_ _ _) hg.1
theorem wp_ent_putWD (x y : Operand) (ho : o.op = .store 26 x y) (hd : o.dst = none) (hx : a.eval x = .pointer (some ⟨g, 106, none⟩)) (hB : Blk w g t (entC e u v)) (h1 : LenE e) (h2 : LenW e) (l' : Value) (hy : a.eval y = l') (hl : l'.oneCell' = true)
 (hK : ∀ w', Blk w' g t (entC e u l') → w.grownBy w' (some g) → K a w') : o.wp Tryd.prog a w K Q := by
 have hg := grown_setCells (g := g) [l'] w 106
 refine wp_store_one 26 x y ho g 106 hx _ hy (by rw [hB.cell, ent_litW h1 h2]; rfl) (hB.frozen _) hl (by kernel_rfl) ?_
 rw [hd]
 exact hK _ (by rw [← ent_putW (y := v) h1 h2 l']; exact hB.set_ _ _) hg.1
end
theorem RowB.pastE {w w' : World} {base g : Nat} {v : Value} {xs : List Int} {t : TypeId} {cs : List Value} (h : RowB w base v xs) (hk : Blk w g t cs) (ht : (t == 5) = false) (hg : w.grownBy w' (some g)) : RowB w' base v xs := by
 refine h.kept hg ?_
 rcases h with ⟨rfl, _⟩ | ⟨g', cap, cur, f, rfl, _, hb, _⟩
 · exact .inl rfl
 · refine .inr fun e => ?_
   simp [Value.ownBlock] at e
   subst e
   unfold BlkF at hb
   have hk' : w.heap[g']? = _ := hk
   rw [hb] at hk'
   injection hk' with hh
   injection hh with _ ht' _
   subst ht'
   cases ht
set_option maxHeartbeats 4000000
theorem fresh_any (e : EntD) (lr lw : Value) (w : World) (h : EntOk w w.heap.size e lr lw) (hr : e.read.lit.length ≤ 1000000) (hw : e.write.lit.length ≤ 1000000) :
 Calls Tryd.prog 46 #[.agg (entC e lr lw).toArray] w fun r w' => ∃ lr' lw', r = .returned (.agg (entC e lr' lw').toArray) ∧ RowB w' w.heap.size lr' e.read.lit ∧ RowB w' w.heap.size lw' e.write.lit ∧ Below w.heap.size w w' := by
 have HL1 := hide (show LenE e from ⟨h.rWf.keyL, h.rWf.fpL⟩)
 have HL2 := hide (show LenW e from ⟨h.wWf.keyL, h.wWf.fpL⟩)
 have HRL := hide h.r1
 have HWL := hide h.w1
 have HRLB := hide h.rWf.litB
 have HWLB := hide h.wWf.litB
 have HRLN := hide hr
 have HWLN := hide hw
 have HSZ := hide (show (Tryd.prog.info? 45).map (·.size) = some (entC e lr lw).length by rw [ent_len h]; exact size_ent)
 obtain ⟨g1, HG⟩ : ∃ k, Hid (w.heap.size = k) := ⟨_, hide rfl⟩
 have hg1 : w.heap.size ≤ g1 ∧ g1 ≤ w.heap.size := by have := HG.out; omega
 clear h hr hw
 go_enter Tryd.func46, Tryd.ntmps46
 go_upto_region 1 with (first
  | (refine wpList_st_box _ rfl (entC e lr lw) rfl rfl ?_; intro w1 hb1 hw1 hs1; rw [HG.out] at hb1 hs1; try rw [HG.out]; have HE := hide hb1; have HB := hide hw1; clear hb1 hw1)
  | (refine wpList_alloc_blk rfl 45 rfl _ zero_ent ?_; intro w2 hb2 hw2 hs2; rw [hs1] at hb2; try rw [hs1]; have HR := hide hb2; replace HE := hide (HE.out.below hw2 HE.out.lt); replace HB := hide (HB.out.trans (hw2.mono (by omega))); clear hb2 hw2))
 simp only [Act.put, s1_, s2_, s3_]
 go_cut [] from 3 to 14 (fun wx => ∃ v6 v10, Blk wx g1 45 (entC e v6 v10) ∧ Blk wx (g1 + 1) 45 (entC EntD.none_ (.slice none 0 0) (.slice none 0 0)) ∧ RowB wx w.heap.size v6 e.read.lit ∧ RowB wx w.heap.size v10 e.write.lit ∧ Below w.heap.size w wx)
 case first =>
  refine wp_region_held_drew (S := fun w' => Below w.heap.size w w') (by kernel_rfl) HB.out.drew (fun hHeld => ?_)
  replace HE := hide HE.out.drew
  replace HR := hide HR.out.drew
  refine take_e 3 (i := 0) (v := .pointer (some ⟨g1, 1, none⟩)) rfl (by kernel_rfl) (Or.inl ⟨by kernel_rfl, fun w' hS => exec_fieldG _ _ 1 1 rfl g1 0 rfl (by kernel_rfl) _ (by first | rfl | omega)⟩) hHeld ?_
  try simp only [Act.put, s1_, s2_, s3_]
  refine take_e 4 (i := 1) (v := .pointer (some ⟨g1, 1 + 52, none⟩)) rfl (by kernel_rfl) (Or.inl ⟨by kernel_rfl, fun w' hS => exec_fieldG _ _ 6 52 rfl g1 1 rfl (by kernel_rfl) _ (by first | rfl | omega)⟩) hHeld ?_
  try simp only [Act.put, s1_, s2_, s3_]
  refine take_e 7 (i := 4) (v := .pointer (some ⟨g1, 54, none⟩)) rfl (by kernel_rfl) (Or.inl ⟨by kernel_rfl, fun w' hS => exec_fieldG _ _ 2 54 rfl g1 0 rfl (by kernel_rfl) _ (by first | rfl | omega)⟩) hHeld ?_
  try simp only [Act.put, s1_, s2_, s3_]
  refine take_e 8 (i := 5) (v := .pointer (some ⟨g1, 54 + 52, none⟩)) rfl (by kernel_rfl) (Or.inl ⟨by kernel_rfl, fun w' hS => exec_fieldG _ _ 6 52 rfl g1 54 rfl (by kernel_rfl) _ (by first | rfl | omega)⟩) hHeld ?_
  try simp only [Act.put, s1_, s2_, s3_]
  refine wpAnyH_ready (rs := [2, 6]) (by kernel_rfl) (by simp) (AllReadyH.cons rfl (fun K hK => ?q1_2) (AllReadyH.cons rfl (fun K hK => ?q2_6) AllReadyH.nil))
  case q1_2 =>
   rw [if_pos (by kernel_rfl)]
   refine wp_valueD 5 rfl lr (exec_load_one _ _ rfl g1 53 rfl _ Tryd.underlying26 rfl _ ((HE.out.cell _).trans (ent_litR HL1.out HL2.out))) ?_
   refine hK.out _ _ hHeld (fun hHeld => ?_)
   clear hK K
   try simp only [Act.put, s1_, s2_, s3_]
   refine wpAnyH_ready (rs := [3, 6]) (by kernel_rfl) (by simp) (AllReadyH.cons rfl (fun K hK => ?q3_3) (AllReadyH.cons rfl (fun K hK => ?q4_6) AllReadyH.nil))
   case q3_3 =>
    rw [if_pos (by kernel_rfl)]
    try go_simp
    refine (clone_any lr e.read.lit _ (HRL.out.below hHeld (Nat.le_refl _) |>.more hHeld.size) HRLB.out HRLN.out).mono ?_
    rintro e w6 ⟨v6, rfl, ho6, hb6⟩
    have HX := hide (hHeld.trans (hb6.mono hHeld.size))
    have HV6 := hide (ho6.more hHeld.size)
    replace HE := hide (HE.out.below hb6 HE.out.lt)
    replace HR := hide (HR.out.below hb6 HR.out.lt)
    try replace HV10 := hide (HV10.out.keptB hb6)
    clear ho6 hb6
    refine hK.out _ _ HX.out (fun hHeld => ?_)
    clear HX hK K
    try simp only [Act.put, s1_, s2_, s3_]
    refine wpAnyH_ready (rs := [6]) (by kernel_rfl) (by simp) (AllReadyH.cons rfl (fun K hK => ?_) AllReadyH.nil)
    rw [if_pos (by kernel_rfl)]
    refine wp_valueD 9 rfl lw (exec_load_one _ _ rfl g1 106 rfl _ Tryd.underlying26 rfl _ ((HE.out.cell _).trans (ent_litW HL1.out HL2.out))) ?_
    refine hK.out _ _ hHeld (fun hHeld => ?_)
    clear hK K
    try simp only [Act.put, s1_, s2_, s3_]
    refine take_e 11 (i := 8) (v := .pointer (some ⟨g1, 1, none⟩)) rfl (by kernel_rfl) (Or.inl ⟨by kernel_rfl, fun w' hS => exec_fieldG _ _ 1 1 rfl g1 0 rfl (by kernel_rfl) _ (by first | rfl | omega)⟩) hHeld ?_
    try simp only [Act.put, s1_, s2_, s3_]
    refine take_e 12 (i := 9) (v := .pointer (some ⟨g1, 1 + 52, none⟩)) rfl (by kernel_rfl) (Or.inl ⟨by kernel_rfl, fun w' hS => exec_fieldG _ _ 6 52 rfl g1 1 rfl (by kernel_rfl) _ (by first | rfl | omega)⟩) hHeld ?_
    try simp only [Act.put, s1_, s2_, s3_]
    refine wpAnyH_ready (rs := [7]) (by kernel_rfl) (by simp) (AllReadyH.cons rfl (fun K hK => ?_) AllReadyH.nil)
    rw [if_pos (by kernel_rfl)]
    try go_simp
    refine (clone_any lw e.write.lit _ (HWL.out.below hHeld (Nat.le_refl _) |>.more hHeld.size) HWLB.out HWLN.out).mono ?_
    rintro e w10 ⟨v10, rfl, ho10, hb10⟩
    have HX := hide (hHeld.trans (hb10.mono hHeld.size))
    have HV10 := hide (ho10.more hHeld.size)
    replace HE := hide (HE.out.below hb10 HE.out.lt)
    replace HR := hide (HR.out.below hb10 HR.out.lt)
    try replace HV6 := hide (HV6.out.keptB hb10)
    clear ho10 hb10
    refine hK.out _ _ HX.out (fun hHeld => ?_)
    clear HX hK K
    try simp only [Act.put, s1_, s2_, s3_]
    refine wpAnyH_ready (rs := [10]) (by kernel_rfl) (by simp) (AllReadyH.cons rfl (fun K hK => ?_) AllReadyH.nil)
    rw [if_pos (by kernel_rfl)]
    refine wp_ent_putRD _ _ rfl rfl rfl HE.out HL1.out HL2.out v6 rfl (bs_one_ HV6.out.reads) ?_
    intro ws10 hs10 hg10
    replace HV6 := hide (HV6.out.pastE HE.out (by kernel_rfl) hg10)
    try replace HV10 := hide (HV10.out.pastE HE.out (by kernel_rfl) hg10)
    replace HE := hide hs10
    replace HR := hide (HR.out.grown hg10 (by intro e; injection e; omega))
    have HX := hide (hHeld.grown hg10 hHeld.size (by intro k hk; injection hk; omega))
    clear hs10 hg10
    refine hK.out _ _ HX.out (fun hHeld => ?_)
    clear HX hK K
    try simp only [Act.put, s1_, s2_, s3_]
    refine take_e 13 (i := 11) (v := .pointer (some ⟨g1, 54, none⟩)) rfl (by kernel_rfl) (Or.inl ⟨by kernel_rfl, fun w' hS => exec_fieldG _ _ 2 54 rfl g1 0 rfl (by kernel_rfl) _ (by first | rfl | omega)⟩) hHeld ?_
    try simp only [Act.put, s1_, s2_, s3_]
    refine take_e 14 (i := 12) (v := .pointer (some ⟨g1, 54 + 52, none⟩)) rfl (by kernel_rfl) (Or.inl ⟨by kernel_rfl, fun w' hS => exec_fieldG _ _ 6 52 rfl g1 54 rfl (by kernel_rfl) _ (by first | rfl | omega)⟩) hHeld ?_
    try simp only [Act.put, s1_, s2_, s3_]
    refine wpAnyH_ready (rs := [13]) (by kernel_rfl) (by simp) (AllReadyH.cons rfl (fun K hK => ?_) AllReadyH.nil)
    rw [if_pos (by kernel_rfl)]
    refine wp_ent_putWD _ _ rfl rfl rfl HE.out HL1.out HL2.out v10 rfl (bs_one_ HV10.out.reads) ?_
    intro ws13 hs13 hg13
    replace HV10 := hide (HV10.out.pastE HE.out (by kernel_rfl) hg13)
    try replace HV6 := hide (HV6.out.pastE HE.out (by kernel_rfl) hg13)
    replace HE := hide hs13
    replace HR := hide (HR.out.grown hg13 (by intro e; injection e; omega))
    have HX := hide (hHeld.grown hg13 hHeld.size (by intro k hk; injection hk; omega))
    clear hs13 hg13
    refine hK.out _ _ HX.out (fun hHeld => ?_)
    clear HX hK K
    try simp only [Act.put, s1_, s2_, s3_]
    refine wpAnyH_done (by kernel_rfl) ?_ _
    go_wp2_with fail
    go_meet
    exact ⟨v6, v10, HE.out, HR.out, HV6.out, HV10.out, hHeld⟩
   case q4_6 =>
    rw [if_pos (by kernel_rfl)]
    refine wp_valueD 9 rfl lw (exec_load_one _ _ rfl g1 106 rfl _ Tryd.underlying26 rfl _ ((HE.out.cell _).trans (ent_litW HL1.out HL2.out))) ?_
    refine hK.out _ _ hHeld (fun hHeld => ?_)
    clear hK K
    try simp only [Act.put, s1_, s2_, s3_]
    refine wpAnyH_ready (rs := [3]) (by kernel_rfl) (by simp) (AllReadyH.cons rfl (fun K hK => ?_) AllReadyH.nil)
    rw [if_pos (by kernel_rfl)]
    try go_simp
    refine (clone_any lr e.read.lit _ (HRL.out.below hHeld (Nat.le_refl _) |>.more hHeld.size) HRLB.out HRLN.out).mono ?_
    rintro e w6 ⟨v6, rfl, ho6, hb6⟩
    have HX := hide (hHeld.trans (hb6.mono hHeld.size))
    have HV6 := hide (ho6.more hHeld.size)
    replace HE := hide (HE.out.below hb6 HE.out.lt)
    replace HR := hide (HR.out.below hb6 HR.out.lt)
    try replace HV10 := hide (HV10.out.keptB hb6)
    clear ho6 hb6
    refine hK.out _ _ HX.out (fun hHeld => ?_)
    clear HX hK K
    try simp only [Act.put, s1_, s2_, s3_]
    refine take_e 11 (i := 8) (v := .pointer (some ⟨g1, 1, none⟩)) rfl (by kernel_rfl) (Or.inl ⟨by kernel_rfl, fun w' hS => exec_fieldG _ _ 1 1 rfl g1 0 rfl (by kernel_rfl) _ (by first | rfl | omega)⟩) hHeld ?_
    try simp only [Act.put, s1_, s2_, s3_]
    refine take_e 12 (i := 9) (v := .pointer (some ⟨g1, 1 + 52, none⟩)) rfl (by kernel_rfl) (Or.inl ⟨by kernel_rfl, fun w' hS => exec_fieldG _ _ 6 52 rfl g1 1 rfl (by kernel_rfl) _ (by first | rfl | omega)⟩) hHeld ?_
    try simp only [Act.put, s1_, s2_, s3_]
    refine wpAnyH_ready (rs := [7]) (by kernel_rfl) (by simp) (AllReadyH.cons rfl (fun K hK => ?_) AllReadyH.nil)
    rw [if_pos (by kernel_rfl)]
    try go_simp
    refine (clone_any lw e.write.lit _ (HWL.out.below hHeld (Nat.le_refl _) |>.more hHeld.size) HWLB.out HWLN.out).mono ?_
    rintro e w10 ⟨v10, rfl, ho10, hb10⟩
    have HX := hide (hHeld.trans (hb10.mono hHeld.size))
    have HV10 := hide (ho10.more hHeld.size)
    replace HE := hide (HE.out.below hb10 HE.out.lt)
    replace HR := hide (HR.out.below hb10 HR.out.lt)
    try replace HV6 := hide (HV6.out.keptB hb10)
    clear ho10 hb10
    refine hK.out _ _ HX.out (fun hHeld => ?_)
    clear HX hK K
    try simp only [Act.put, s1_, s2_, s3_]
    refine wpAnyH_ready (rs := [10]) (by kernel_rfl) (by simp) (AllReadyH.cons rfl (fun K hK => ?_) AllReadyH.nil)
    rw [if_pos (by kernel_rfl)]
    refine wp_ent_putRD _ _ rfl rfl rfl HE.out HL1.out HL2.out v6 rfl (bs_one_ HV6.out.reads) ?_
    intro ws10 hs10 hg10
    replace HV6 := hide (HV6.out.pastE HE.out (by kernel_rfl) hg10)
    try replace HV10 := hide (HV10.out.pastE HE.out (by kernel_rfl) hg10)
    replace HE := hide hs10
    replace HR := hide (HR.out.grown hg10 (by intro e; injection e; omega))
    have HX := hide (hHeld.grown hg10 hHeld.size (by intro k hk; injection hk; omega))
    clear hs10 hg10
    refine hK.out _ _ HX.out (fun hHeld => ?_)
    clear HX hK K
    try simp only [Act.put, s1_, s2_, s3_]
    refine take_e 13 (i := 11) (v := .pointer (some ⟨g1, 54, none⟩)) rfl (by kernel_rfl) (Or.inl ⟨by kernel_rfl, fun w' hS => exec_fieldG _ _ 2 54 rfl g1 0 rfl (by kernel_rfl) _ (by first | rfl | omega)⟩) hHeld ?_
    try simp only [Act.put, s1_, s2_, s3_]
    refine take_e 14 (i := 12) (v := .pointer (some ⟨g1, 54 + 52, none⟩)) rfl (by kernel_rfl) (Or.inl ⟨by kernel_rfl, fun w' hS => exec_fieldG _ _ 6 52 rfl g1 54 rfl (by kernel_rfl) _ (by first | rfl | omega)⟩) hHeld ?_
    try simp only [Act.put, s1_, s2_, s3_]
    refine wpAnyH_ready (rs := [13]) (by kernel_rfl) (by simp) (AllReadyH.cons rfl (fun K hK => ?_) AllReadyH.nil)
    rw [if_pos (by kernel_rfl)]
    refine wp_ent_putWD _ _ rfl rfl rfl HE.out HL1.out HL2.out v10 rfl (bs_one_ HV10.out.reads) ?_
    intro ws13 hs13 hg13
    replace HV10 := hide (HV10.out.pastE HE.out (by kernel_rfl) hg13)
    try replace HV6 := hide (HV6.out.pastE HE.out (by kernel_rfl) hg13)
    replace HE := hide hs13
    replace HR := hide (HR.out.grown hg13 (by intro e; injection e; omega))
    have HX := hide (hHeld.grown hg13 hHeld.size (by intro k hk; injection hk; omega))
    clear hs13 hg13
    refine hK.out _ _ HX.out (fun hHeld => ?_)
    clear HX hK K
    try simp only [Act.put, s1_, s2_, s3_]
    refine wpAnyH_done (by kernel_rfl) ?_ _
    go_wp2_with fail
    go_meet
    exact ⟨v6, v10, HE.out, HR.out, HV6.out, HV10.out, hHeld⟩
  case q2_6 =>
   rw [if_pos (by kernel_rfl)]
   refine wp_valueD 9 rfl lw (exec_load_one _ _ rfl g1 106 rfl _ Tryd.underlying26 rfl _ ((HE.out.cell _).trans (ent_litW HL1.out HL2.out))) ?_
   refine hK.out _ _ hHeld (fun hHeld => ?_)
   clear hK K
   try simp only [Act.put, s1_, s2_, s3_]
   refine wpAnyH_ready (rs := [2]) (by kernel_rfl) (by simp) (AllReadyH.cons rfl (fun K hK => ?_) AllReadyH.nil)
   rw [if_pos (by kernel_rfl)]
   refine wp_valueD 5 rfl lr (exec_load_one _ _ rfl g1 53 rfl _ Tryd.underlying26 rfl _ ((HE.out.cell _).trans (ent_litR HL1.out HL2.out))) ?_
   refine hK.out _ _ hHeld (fun hHeld => ?_)
   clear hK K
   try simp only [Act.put, s1_, s2_, s3_]
   refine wpAnyH_ready (rs := [3]) (by kernel_rfl) (by simp) (AllReadyH.cons rfl (fun K hK => ?_) AllReadyH.nil)
   rw [if_pos (by kernel_rfl)]
   try go_simp
   refine (clone_any lr e.read.lit _ (HRL.out.below hHeld (Nat.le_refl _) |>.more hHeld.size) HRLB.out HRLN.out).mono ?_
   rintro e w6 ⟨v6, rfl, ho6, hb6⟩
   have HX := hide (hHeld.trans (hb6.mono hHeld.size))
   have HV6 := hide (ho6.more hHeld.size)
   replace HE := hide (HE.out.below hb6 HE.out.lt)
   replace HR := hide (HR.out.below hb6 HR.out.lt)
   try replace HV10 := hide (HV10.out.keptB hb6)
   clear ho6 hb6
   refine hK.out _ _ HX.out (fun hHeld => ?_)
   clear HX hK K
   try simp only [Act.put, s1_, s2_, s3_]
   refine take_e 11 (i := 8) (v := .pointer (some ⟨g1, 1, none⟩)) rfl (by kernel_rfl) (Or.inl ⟨by kernel_rfl, fun w' hS => exec_fieldG _ _ 1 1 rfl g1 0 rfl (by kernel_rfl) _ (by first | rfl | omega)⟩) hHeld ?_
   try simp only [Act.put, s1_, s2_, s3_]
   refine take_e 12 (i := 9) (v := .pointer (some ⟨g1, 1 + 52, none⟩)) rfl (by kernel_rfl) (Or.inl ⟨by kernel_rfl, fun w' hS => exec_fieldG _ _ 6 52 rfl g1 1 rfl (by kernel_rfl) _ (by first | rfl | omega)⟩) hHeld ?_
   try simp only [Act.put, s1_, s2_, s3_]
   refine wpAnyH_ready (rs := [7]) (by kernel_rfl) (by simp) (AllReadyH.cons rfl (fun K hK => ?_) AllReadyH.nil)
   rw [if_pos (by kernel_rfl)]
   try go_simp
   refine (clone_any lw e.write.lit _ (HWL.out.below hHeld (Nat.le_refl _) |>.more hHeld.size) HWLB.out HWLN.out).mono ?_
   rintro e w10 ⟨v10, rfl, ho10, hb10⟩
   have HX := hide (hHeld.trans (hb10.mono hHeld.size))
   have HV10 := hide (ho10.more hHeld.size)
   replace HE := hide (HE.out.below hb10 HE.out.lt)
   replace HR := hide (HR.out.below hb10 HR.out.lt)
   try replace HV6 := hide (HV6.out.keptB hb10)
   clear ho10 hb10
   refine hK.out _ _ HX.out (fun hHeld => ?_)
   clear HX hK K
   try simp only [Act.put, s1_, s2_, s3_]
   refine wpAnyH_ready (rs := [10]) (by kernel_rfl) (by simp) (AllReadyH.cons rfl (fun K hK => ?_) AllReadyH.nil)
   rw [if_pos (by kernel_rfl)]
   refine wp_ent_putRD _ _ rfl rfl rfl HE.out HL1.out HL2.out v6 rfl (bs_one_ HV6.out.reads) ?_
   intro ws10 hs10 hg10
   replace HV6 := hide (HV6.out.pastE HE.out (by kernel_rfl) hg10)
   try replace HV10 := hide (HV10.out.pastE HE.out (by kernel_rfl) hg10)
   replace HE := hide hs10
   replace HR := hide (HR.out.grown hg10 (by intro e; injection e; omega))
   have HX := hide (hHeld.grown hg10 hHeld.size (by intro k hk; injection hk; omega))
   clear hs10 hg10
   refine hK.out _ _ HX.out (fun hHeld => ?_)
   clear HX hK K
   try simp only [Act.put, s1_, s2_, s3_]
   refine take_e 13 (i := 11) (v := .pointer (some ⟨g1, 54, none⟩)) rfl (by kernel_rfl) (Or.inl ⟨by kernel_rfl, fun w' hS => exec_fieldG _ _ 2 54 rfl g1 0 rfl (by kernel_rfl) _ (by first | rfl | omega)⟩) hHeld ?_
   try simp only [Act.put, s1_, s2_, s3_]
   refine take_e 14 (i := 12) (v := .pointer (some ⟨g1, 54 + 52, none⟩)) rfl (by kernel_rfl) (Or.inl ⟨by kernel_rfl, fun w' hS => exec_fieldG _ _ 6 52 rfl g1 54 rfl (by kernel_rfl) _ (by first | rfl | omega)⟩) hHeld ?_
   try simp only [Act.put, s1_, s2_, s3_]
   refine wpAnyH_ready (rs := [13]) (by kernel_rfl) (by simp) (AllReadyH.cons rfl (fun K hK => ?_) AllReadyH.nil)
   rw [if_pos (by kernel_rfl)]
   refine wp_ent_putWD _ _ rfl rfl rfl HE.out HL1.out HL2.out v10 rfl (bs_one_ HV10.out.reads) ?_
   intro ws13 hs13 hg13
   replace HV10 := hide (HV10.out.pastE HE.out (by kernel_rfl) hg13)
   try replace HV6 := hide (HV6.out.pastE HE.out (by kernel_rfl) hg13)
   replace HE := hide hs13
   replace HR := hide (HR.out.grown hg13 (by intro e; injection e; omega))
   have HX := hide (hHeld.grown hg13 hHeld.size (by intro k hk; injection hk; omega))
   clear hs13 hg13
   refine hK.out _ _ HX.out (fun hHeld => ?_)
   clear HX hK K
   try simp only [Act.put, s1_, s2_, s3_]
   refine wpAnyH_done (by kernel_rfl) ?_ _
   go_wp2_with fail
   go_meet
   exact ⟨v6, v10, HE.out, HR.out, HV6.out, HV10.out, hHeld⟩
 obtain ⟨v6, v10, hE, hR, h6, h10, hbel⟩ := hcut
 replace HE := hide hE
 replace HR := hide hR
 have H6 := hide h6
 have H10 := hide h10
 replace HB := hide hbel
 have HO6 := hide (bs_one_ h6.reads)
 have HO10 := hide (bs_one_ h10.reads)
 clear hE hR h6 h10 hbel
 have HSV := hide (show (Tryd.prog.info? 45).map (·.size) = some (entC e v6 v10).length by rw [ent_lenL HL1.out HL2.out]; exact size_ent)
 have HSA := hide (show (Tryd.prog.info? 45).map (·.size) = some (entC e v6 v10).toArray.size by rw [List.size_toArray]; exact HSV.out)
 go_wp2_with (first
  | (refine wpList_st_all 45 _ rfl rfl rfl HE.out _ Tryd.underlying45 rfl HSV.out ?_)
  | (refine wpList_st_putAll _ _ _ rfl rfl rfl HR.out (entC e v6 v10) rfl (by rw [ent_lenL HL1.out HL2.out, ent_len ⟨EntD.none_wf, Bs.nil_ wc 0, Bs.nil_ wc 0⟩]) HSV.out (ent_oneL HO6.out HO10.out) ?_; intro w8 hB hg8 hs8; have H6' := hide (H6.out.pastE HR.out (by kernel_rfl) hg8); have H10' := hide (H10.out.pastE HR.out (by kernel_rfl) hg8))
  | (exact bodyPost_ret (v := .agg (entC e v6 v10).toArray) (results_cell_row rfl _ _ (g1 + 1) 45 _ (0, 0) _ rfl hB Tryd.underlying45 rfl (by simpa using HSA.out)) rfl ⟨v6, v10, rfl, H6'.out, H10'.out, HB.out.grown hg8 HB.out.size (by intro k hk; injection hk; omega)⟩))
end Go.Proofs.YthdjgebbjogmiaaDoor

namespace Go.Proofs.YthdjgebbjogmiaaDoor
open Go Go.RowKit

set_option maxRecDepth 100000
set_option maxHeartbeats 4000000
theorem short_any (s : ByteArray) (k : List Int) (w : World) (hk : k.length = 16) (hb : Bytes k) (hs : s.size ≤ 1000) (ht : Tab w w.heap.size) :
 Calls Tryd.prog 50 #[.string s, .agg (u8s k).toArray] w fun e w' => e = .returned (.agg (u8s (keyF s k)).toArray) ∧ Below w.heap.size w w' := by
 have HK := hide hk
 have HBK := hide (show ∀ x ∈ [k], Bytes x from fun x hx => by simp at hx; subst hx; exact hb)
 have HLK := hide (show ∀ x ∈ [k], x.length ≤ 1000000 from fun x hx => by simp at hx; subst hx; omega)
 have HT := hide ht
 obtain ⟨RES, HRES⟩ : ∃ x, Hid (keyF s k = x) := ⟨_, hide rfl⟩
 have HRS := hide (show shortF (strB s) [k] = RES from HRES.out)
 have HRL := hide (show RES.length = 16 by rw [← HRES.out]; exact keyF_len _ _)
 obtain ⟨KV, HKV⟩ : ∃ x, Hid (Value.agg (u8s k).toArray = x) := ⟨_, hide rfl⟩
 rw [HRES.out, HKV.out]
 clear hk hb ht
 go_enter Tryd.func50, Tryd.ntmps50
 obtain ⟨g0, hg0⟩ : ∃ n, w.heap.size = n := ⟨_, rfl⟩
 go_wp2_with (first
  | (refine wpList_box_key _ rfl k HKV.out.symm rfl ?_; intro w1 hb1 hw1 hs1; rw [hg0] at hb1 ⊢; have HX1 := hide hb1; have HB1 := hide hw1; clear hb1 hw1)
  | (refine wpList_alloc_blk rfl 23 rfl _ zero_key ?_; intro w2 hb2 hw2 hs2; have hg2 : w1.heap.size = g0 + 1 := (by omega); rw [hg2] at hb2; try rw [hg2]; have HR2 := hide hb2; have HX2 := hide (HX1.out.below hw2 HX1.out.lt); have HB2 := hide (HB1.out.trans (hw2.mono HB1.out.size)); clear hb2 hw2 HX1 HB1)
  | (refine wpList_rows1 rfl _ rfl (.slice (some ⟨g0, 0, none⟩) 16 16) rfl rfl ?_; intro w3 hb3 hw3; have hg3 : w2.heap.size = g0 + 1 + 1 := (by omega); rw [hg3] at hb3; have HX3 := hide (HX2.out.below hw3 HX2.out.lt); have HV3 := hide (rows_one hb3 (HX3.out.reads HK.out (by omega))); have HR3 := hide (HR2.out.below hw3 HR2.out.lt); have HB3 := hide (HB2.out.trans (hw3.mono HB2.out.size)); clear hb3 hw3 HX2 HR2 HB2))
 refine (Short_any s _ [k] _ HV3.out HBK.out HLK.out (by simp) hs ((HT.out.below HB3.out (Nat.le_refl _)).more HB3.out.size)).mono ?_
 rintro e w4 ⟨rfl, hb4⟩
 rw [HRS.out]
 have HR4 := hide (HR3.out.below hb4 HR3.out.lt)
 have HB4 := hide (HB3.out.trans (hb4.mono HB3.out.size))
 clear hb4 HR3 HB3 HX3 HV3
 go_wp2_with (first
  | (refine wpList_store_blk rfl 23 _ _ rfl (g0 + 1) 0 (u8s RES) rfl rfl _ _ HR4.out (by rw [u8s_len, u8s_len, HRL.out]; simp) (by rw [u8s_len, HRL.out]; exact size_key) (u8s_one _) ?_; intro w7 hb7 hg7 hs7; rw [lset_all _ _ (by rw [u8s_len, u8s_len, HRL.out]; rfl)] at hb7; have HR7 := hide hb7; have HB7 := hide (HB4.out.grown hg7 (by have := HB4.out.size; omega) (by intro k hk; simp at hk; omega)); clear hb7 hg7))
 refine bodyPost_ret (v := .agg (u8s RES).toArray) (results_cell_row rfl _ _ (g0 + 1) 23 _ (0, 0) _ rfl HR7.out Tryd.underlying23 rfl (by rw [List.size_toArray, u8s_len, HRL.out]; exact size_key)) rfl ?_
 exact ⟨rfl, HB7.out⟩
end Go.Proofs.YthdjgebbjogmiaaDoor
