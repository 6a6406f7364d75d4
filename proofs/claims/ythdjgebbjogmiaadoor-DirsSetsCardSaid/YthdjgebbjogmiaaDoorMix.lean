/- sha.mix: a block of 64 bytes mixed into the eight words. Condition: eight words, 64 numbers of rounds, 64 bytes at least. -/
import Derived.Test.YthdjgebbjogmiaaDoorJoin28
import Derived.Test.YthdjgebbjogmiaaDoorJoin4
set_option linter.unusedVariables false
set_option linter.unusedSimpArgs false
namespace Go.Proofs.YthdjgebbjogmiaaDoor
open Go Go.RowKit

theorem blk_at {w : World} {g : Nat} {t : TypeId} {xs : List Int} (h : Blk w g t (u32s xs)) (i : Nat) (hi : i < 64) (hl : xs.length = 64) (x : Int) (hx : xs.getD i 0 = x) : w.cell? ⟨g, i, none⟩ = some (.int .u32 x) := by
 rw [← hx]; exact blk_u32 h i (by omega)
theorem blk_at8 {w : World} {g : Nat} {t : TypeId} {xs : List Int} (h : Blk w g t (u32s xs)) (i : Nat) (hi : i < 8) (hl : xs.length = 8) (x : Int) (hx : xs.getD i 0 = x) : w.cell? ⟨g, i, none⟩ = some (.int .u32 x) := by
 rw [← hx]; exact blk_u32 h i (by omega)
theorem getD_set_ne (xs : List Int) {i j : Nat} {z : Int} (h : j ≠ i) : (xs.set i z).getD j 0 = xs.getD j 0 := by
 rw [List.getD_eq_getElem?_getD, List.getD_eq_getElem?_getD, List.getElem?_set_ne (by omega)]
section
variable {o : Oper} {a : Act} {w : World} {K : Act → World → Prop} {Q : Exit → Act → World → Prop}
theorem wp_load_u32D (d : Nat) (hd : o.dst = some d) (x : Operand) (ho : o.op = .load 101 x) (g off : Nat) (hx : a.eval x = .pointer (some ⟨g, off, none⟩)) (v : Value) (hc : w.cell? ⟨g, off, none⟩ = some v) (h : K (a.put (some d) v) w) : o.wp Tryd.prog a w K Q :=
 wp_load_one _ x ho g off hx _ Tryd.underlying101 rfl v hc (by rw [hd]; exact h)
theorem built_a8 (x0 x1 x2 x3 x4 x5 x6 x7 : Int) : Tryd.prog.built 104 [(0, .int .u32 x0), (1, .int .u32 x1), (2, .int .u32 x2), (3, .int .u32 x3), (4, .int .u32 x4), (5, .int .u32 x5), (6, .int .u32 x6), (7, .int .u32 x7)] = some (u32s [x0, x1, x2, x3, x4, x5, x6, x7]).toArray := by kernel_rfl
theorem wpList_build_a8 {ops : Array Oper} {rest : List Oper} (hgd : o.guard = none) (p0 p1 p2 p3 p4 p5 p6 p7 : Operand) (ho : o.op = .build 104 #[(0, p0), (1, p1), (2, p2), (3, p3), (4, p4), (5, p5), (6, p6), (7, p7)]) (x0 x1 x2 x3 x4 x5 x6 x7 : Int)
 (h0 : a.eval p0 = .int .u32 x0) (h1 : a.eval p1 = .int .u32 x1) (h2 : a.eval p2 = .int .u32 x2) (h3 : a.eval p3 = .int .u32 x3) (h4 : a.eval p4 = .int .u32 x4) (h5 : a.eval p5 = .int .u32 x5) (h6 : a.eval p6 = .int .u32 x6) (h7 : a.eval p7 = .int .u32 x7)
 (h : wpList Tryd.prog ops Q rest (a.put o.dst (.agg (u32s [x0, x1, x2, x3, x4, x5, x6, x7]).toArray)) w) : wpList Tryd.prog ops Q (o :: rest) a w := by
 have hm : ((#[(0, p0), (1, p1), (2, p2), (3, p3), (4, p4), (5, p5), (6, p6), (7, p7)] : Array (Nat × Operand)).map fun (i, x) => (i, a.eval x)).toList = [(0, .int .u32 x0), (1, .int .u32 x1), (2, .int .u32 x2), (3, .int .u32 x3), (4, .int .u32 x4), (5, .int .u32 x5), (6, .int .u32 x6), (7, .int .u32 x7)] := by simp [h0, h1, h2, h3, h4, h5, h6, h7]
 exact wpList_build hgd _ _ ho (by rw [hm, built_a8]; rfl) (by rw [hm, built_a8]; exact h)
theorem wpList_box_a8 {ops : Array Oper} {rest : List Oper} (x : Operand) (ho : o.op = .box 104 x) (xs : List Int) (hx : a.eval x = .agg (u32s xs).toArray) (hgd : o.guard = none)
 (h : ∀ w', Blk w' w.heap.size 104 (u32s xs) → Below w.heap.size w w' → w'.heap.size = w.heap.size + 1 → wpList Tryd.prog ops Q rest (a.put o.dst (.pointer (some ⟨w.heap.size, 0, none⟩))) w') : wpList Tryd.prog ops Q (o :: rest) a w :=
 Great.wpList_boxTo hgd _ x ho _ rfl _ rfl (u32s xs).toArray (by rw [hx]; rfl) (h _ (Blk.new w _ _) ((Below.refl _ _).alloc (Nat.le_refl _) _) (by simp))
end

set_option maxRecDepth 100000
set_option maxHeartbeats 16000000 in
theorem mix_any (h b ks : List Int) (gk ok : Nat) (v : Value) (w : World) (hh : h.length = 8) (hks : ks.length = 64) (hb : Bs w w.heap.size v b) (hb64 : 64 ≤ b.length) (hk : w.rangeAt gk ok (u32s ks)) (hkb : gk < w.heap.size) :
 Calls Tryd.prog 109 #[.agg (u32s h).toArray, .pointer (some ⟨gk, ok, none⟩), v] w fun e w' => e = .returned (.agg (u32s (mixF ks h b)).toArray) ∧ Below w.heap.size w w' := by
 have HH8 := hide hh
 have HVL8 := hide (fun W i => vN_len h ks W hh i)
 have HNL := hide (fun V i => (hN_len h V i).trans hh)
 have HKI0 := hide (fun (j : Nat) (hj : j < 64) (w' : World) (hw : Below w.heap.size w w') => show w'.cell? ⟨gk, ok + j, none⟩ = some (.int .u32 (ks.getD j 0)) from (hw.cell hkb).trans (hk j _ (by
  rw [u32s, List.getElem?_map, List.getElem?_eq_getElem (by omega), List.getD_eq_getElem?_getD, List.getElem?_eq_getElem (by omega)]; rfl)))
 have HMX := hide (show mixF ks h b = hN h (vN h ks (schedN b 64) 64) 8 from rfl)
 obtain ⟨RES, HRES⟩ : ∃ x, Hid (mixF ks h b = x) := ⟨_, hide rfl⟩
 rw [HRES.out] at HMX ⊢
 obtain ⟨A0, cb, rfl, h1, h2, h3⟩ := hb.open_
 obtain ⟨bb, ob, rfl, hbb, hcb⟩ := h3 (by omega)
 have HCB := hide (fun (j : Nat) (hj : j < 64) (w' : World) (hw : Below w.heap.size w w') => show w'.cell? ⟨bb, ob + j, none⟩ = some (.int .u8 (b.getD j 0)) from (hw.cell hbb).trans (hcb j _ (by omega) rfl))
 clear hcb h3 h1 h2 hb hk hh hks
 obtain ⟨HV8, HHV⟩ : ∃ x, Hid ((Value.agg (u32s h).toArray) = x) := ⟨_, hide rfl⟩
 rw [HHV.out]
 go_enter Tryd.func109, Tryd.ntmps109
 obtain ⟨gh, hgh⟩ : ∃ g, w.heap.size = g := ⟨_, rfl⟩
 go_wp2_with (first
  | (refine wpList_box_a8 _ rfl h HHV.out.symm rfl ?_; intro w1 hb1 hw1 hs1; rw [hgh] at hb1 hw1 hs1 ⊢; have BH := hide hb1; have HW := hide hw1; clear hb1 hw1)
  | (refine wpList_alloc_blk rfl 104 rfl _ zero_a8 ?_; intro w2 hb2 hw2 hs2; rw [hs1] at hb2 hw2 hs2 ⊢; have BR := hide hb2; replace BH := hide (BH.out.below hw2 (by omega)); replace HW := hide (HW.out.trans (hw2.mono (by omega))); clear hb2 hw2)
  | (refine wpList_alloc_blk rfl 102 rfl _ zero_a64 ?_; intro w3 hb3 hw3 hs3; rw [hs2] at hb3 hw3 hs3 ⊢; have HB := hide hb3; replace BH := hide (BH.out.below hw3 (by omega)); replace BR := hide (BR.out.below hw3 (by omega)); replace HW := hide (HW.out.trans (hw3.mono (by omega))); clear hb3 hw3))
 obtain ⟨gw, hgw⟩ : ∃ g, gh + 1 + 1 = g := ⟨_, rfl⟩
 rw [hgw] at HB hs3 ⊢
 have hgw2 : gh + 2 ≤ gw ∧ gw ≤ gh + 2 := by omega
 clear hs1 hs2
 go_loopw [23] (fun v23 wr => ∃ i : Nat, i ≤ 16 ∧ v23 = .int .i64 i ∧ Blk wr gw 102 (u32s (schedN b i)) ∧ Below gw w3 wr) (fun v23 _ => 16 - (intOf v23).toNat)
 case atStart => exact ⟨0, by omega, rfl, HB.out, Below.refl _ _⟩
 case round =>
  obtain ⟨i, hi, rfl, hblk, hbel⟩ := hrel
  have HWL := hide (schedN_len b i)
  by_cases hi16 : i < 16
  · have HSC := hide (show schedN b (i + 1) = (schedN b i).set i (wordN b i) by rw [schedN, if_pos hi16])
    obtain ⟨ws, HWS⟩ : ∃ x, Hid (schedN b i = x) := ⟨_, hide rfl⟩
    rw [HWS.out] at hblk HWL HSC
    replace HB := hide hblk
    have HV := hide hbel
    clear hblk hbel
    have CD0 := hide (fun (w' : World) (hw : Below gw w3 w') => HCB.out (4 * i) (by omega) w' (by rw [hgh]; exact HW.out.trans (hw.mono (by omega))))
    obtain ⟨D0, HD0⟩ : ∃ x, Hid (b.getD (4 * i) 0 = x) := ⟨_, hide rfl⟩
    rw [HD0.out] at CD0
    have CD1 := hide (fun (w' : World) (hw : Below gw w3 w') => HCB.out (4 * i + 1) (by omega) w' (by rw [hgh]; exact HW.out.trans (hw.mono (by omega))))
    obtain ⟨D1, HD1⟩ : ∃ x, Hid (b.getD (4 * i + 1) 0 = x) := ⟨_, hide rfl⟩
    rw [HD1.out] at CD1
    have CD2 := hide (fun (w' : World) (hw : Below gw w3 w') => HCB.out (4 * i + 2) (by omega) w' (by rw [hgh]; exact HW.out.trans (hw.mono (by omega))))
    obtain ⟨D2, HD2⟩ : ∃ x, Hid (b.getD (4 * i + 2) 0 = x) := ⟨_, hide rfl⟩
    rw [HD2.out] at CD2
    have CD3 := hide (fun (w' : World) (hw : Below gw w3 w') => HCB.out (4 * i + 3) (by omega) w' (by rw [hgh]; exact HW.out.trans (hw.mono (by omega))))
    obtain ⟨D3, HD3⟩ : ∃ x, Hid (b.getD (4 * i + 3) 0 = x) := ⟨_, hide rfl⟩
    rw [HD3.out] at CD3
    have HZ := hide (show wordN b i = or32 (or32 (or32 (IntKind.u32.wrap (IntKind.u32.wrap D0 * 16777216)) (IntKind.u32.wrap (IntKind.u32.wrap D1 * 65536))) (IntKind.u32.wrap (IntKind.u32.wrap D2 * 256))) (IntKind.u32.wrap D3) by unfold wordN; rw [HD0.out, HD1.out, HD2.out, HD3.out])
    have i1 : (i : Int) < 16 := by omega
    go_upto_region 5 with fail
    refine wp_region_held_drew (S := fun w' => Below gw w3 w') (by kernel_rfl) HV.out.drew (fun hHeld => ?_)
    replace HB := hide HB.out.drew
    refine take_e 26 (i := 0) (v := .int .i64 (i : Int)) rfl (by kernel_rfl) (Or.inl ⟨by kernel_rfl, fun w' hS => exec_move _ rfl _ rfl⟩) hHeld ?_
    simp only [Act.put, s1_, s2_, s3_]
    refine take_e 27 (i := 1) (v := .slice (some ⟨bb, ob, none⟩) b.length cb) rfl (by kernel_rfl) (Or.inl ⟨by kernel_rfl, fun w' hS => exec_move _ rfl _ rfl⟩) hHeld ?_
    simp only [Act.put, s1_, s2_, s3_]
    refine take_e 28 (i := 2) (v := .int .i64 (i : Int)) rfl (by kernel_rfl) (Or.inl ⟨by kernel_rfl, fun w' hS => exec_move _ rfl _ rfl⟩) hHeld ?_
    simp only [Act.put, s1_, s2_, s3_]
    refine take_e 29 (i := 3) (v := .int .i64 (4 * (i : Int))) rfl (by kernel_rfl) (Or.inl ⟨by kernel_rfl, fun w' hS => exec_i64_mul _ _ _ rfl _ _ _ rfl rfl ((IntWalk.i64_in _ (by omega)).trans (by omega))⟩) hHeld ?_
    simp only [Act.put, s1_, s2_, s3_]
    refine take_e 30 (i := 4) (v := .pointer (some ⟨bb, ob + (4 * i), none⟩)) rfl (by kernel_rfl) (Or.inl ⟨by kernel_rfl, fun w' hS => exec_index_u8 _ _ rfl bb ob _ cb (4 * (i : Int)) (4 * i) rfl rfl (by omega) (by omega)⟩) hHeld ?_
    simp only [Act.put, s1_, s2_, s3_]
    refine take_e 31 (i := 5) (v := .int .u8 (D0)) rfl (by kernel_rfl) (Or.inl ⟨by kernel_rfl, fun w' hS => exec_load_u8 _ rfl bb _ rfl _ (CD0.out w' hS)⟩) hHeld ?_
    simp only [Act.put, s1_, s2_, s3_]
    refine take_e 32 (i := 6) (v := .int .u32 (IntKind.u32.wrap (D0))) rfl (by kernel_rfl) (Or.inl ⟨by kernel_rfl, fun w' hS => exec_conv32 _ rfl _ rfl⟩) hHeld ?_
    simp only [Act.put, s1_, s2_, s3_]
    refine take_e 33 (i := 7) (v := .int .u32 (IntKind.u32.wrap ((IntKind.u32.wrap (D0)) * 16777216))) rfl (by kernel_rfl) (Or.inl ⟨by kernel_rfl, fun w' hS => exec_shl32_24 _ _ rfl _ rfl⟩) hHeld ?_
    simp only [Act.put, s1_, s2_, s3_]
    refine take_e 34 (i := 8) (v := .slice (some ⟨bb, ob, none⟩) b.length cb) rfl (by kernel_rfl) (Or.inl ⟨by kernel_rfl, fun w' hS => exec_move _ rfl _ rfl⟩) hHeld ?_
    simp only [Act.put, s1_, s2_, s3_]
    refine take_e 35 (i := 9) (v := .int .i64 (i : Int)) rfl (by kernel_rfl) (Or.inl ⟨by kernel_rfl, fun w' hS => exec_move _ rfl _ rfl⟩) hHeld ?_
    simp only [Act.put, s1_, s2_, s3_]
    refine take_e 36 (i := 10) (v := .int .i64 (4 * (i : Int))) rfl (by kernel_rfl) (Or.inl ⟨by kernel_rfl, fun w' hS => exec_i64_mul _ _ _ rfl _ _ _ rfl rfl ((IntWalk.i64_in _ (by omega)).trans (by omega))⟩) hHeld ?_
    simp only [Act.put, s1_, s2_, s3_]
    refine take_e 37 (i := 11) (v := .int .i64 (4 * (i : Int) + 1)) rfl (by kernel_rfl) (Or.inl ⟨by kernel_rfl, fun w' hS => exec_i64_add _ _ _ rfl _ _ _ rfl rfl ((IntWalk.i64_in _ (by omega)).trans (by omega))⟩) hHeld ?_
    simp only [Act.put, s1_, s2_, s3_]
    refine take_e 38 (i := 12) (v := .pointer (some ⟨bb, ob + (4 * i + 1), none⟩)) rfl (by kernel_rfl) (Or.inl ⟨by kernel_rfl, fun w' hS => exec_index_u8 _ _ rfl bb ob _ cb (4 * (i : Int) + 1) (4 * i + 1) rfl rfl (by omega) (by omega)⟩) hHeld ?_
    simp only [Act.put, s1_, s2_, s3_]
    refine take_e 39 (i := 13) (v := .int .u8 (D1)) rfl (by kernel_rfl) (Or.inl ⟨by kernel_rfl, fun w' hS => exec_load_u8 _ rfl bb _ rfl _ (CD1.out w' hS)⟩) hHeld ?_
    simp only [Act.put, s1_, s2_, s3_]
    refine take_e 40 (i := 14) (v := .int .u32 (IntKind.u32.wrap (D1))) rfl (by kernel_rfl) (Or.inl ⟨by kernel_rfl, fun w' hS => exec_conv32 _ rfl _ rfl⟩) hHeld ?_
    simp only [Act.put, s1_, s2_, s3_]
    refine take_e 41 (i := 15) (v := .int .u32 (IntKind.u32.wrap ((IntKind.u32.wrap (D1)) * 65536))) rfl (by kernel_rfl) (Or.inl ⟨by kernel_rfl, fun w' hS => exec_shl32_16 _ _ rfl _ rfl⟩) hHeld ?_
    simp only [Act.put, s1_, s2_, s3_]
    refine take_e 42 (i := 16) (v := .int .u32 (or32 (IntKind.u32.wrap ((IntKind.u32.wrap (D0)) * 16777216)) (IntKind.u32.wrap ((IntKind.u32.wrap (D1)) * 65536)))) rfl (by kernel_rfl) (Or.inl ⟨by kernel_rfl, fun w' hS => exec_or32 _ _ _ rfl _ _ rfl rfl⟩) hHeld ?_
    simp only [Act.put, s1_, s2_, s3_]
    refine take_e 43 (i := 17) (v := .slice (some ⟨bb, ob, none⟩) b.length cb) rfl (by kernel_rfl) (Or.inl ⟨by kernel_rfl, fun w' hS => exec_move _ rfl _ rfl⟩) hHeld ?_
    simp only [Act.put, s1_, s2_, s3_]
    refine take_e 44 (i := 18) (v := .int .i64 (i : Int)) rfl (by kernel_rfl) (Or.inl ⟨by kernel_rfl, fun w' hS => exec_move _ rfl _ rfl⟩) hHeld ?_
    simp only [Act.put, s1_, s2_, s3_]
    refine take_e 45 (i := 19) (v := .int .i64 (4 * (i : Int))) rfl (by kernel_rfl) (Or.inl ⟨by kernel_rfl, fun w' hS => exec_i64_mul _ _ _ rfl _ _ _ rfl rfl ((IntWalk.i64_in _ (by omega)).trans (by omega))⟩) hHeld ?_
    simp only [Act.put, s1_, s2_, s3_]
    refine take_e 46 (i := 20) (v := .int .i64 (4 * (i : Int) + 2)) rfl (by kernel_rfl) (Or.inl ⟨by kernel_rfl, fun w' hS => exec_i64_add _ _ _ rfl _ _ _ rfl rfl ((IntWalk.i64_in _ (by omega)).trans (by omega))⟩) hHeld ?_
    simp only [Act.put, s1_, s2_, s3_]
    refine take_e 47 (i := 21) (v := .pointer (some ⟨bb, ob + (4 * i + 2), none⟩)) rfl (by kernel_rfl) (Or.inl ⟨by kernel_rfl, fun w' hS => exec_index_u8 _ _ rfl bb ob _ cb (4 * (i : Int) + 2) (4 * i + 2) rfl rfl (by omega) (by omega)⟩) hHeld ?_
    simp only [Act.put, s1_, s2_, s3_]
    refine take_e 48 (i := 22) (v := .int .u8 (D2)) rfl (by kernel_rfl) (Or.inl ⟨by kernel_rfl, fun w' hS => exec_load_u8 _ rfl bb _ rfl _ (CD2.out w' hS)⟩) hHeld ?_
    simp only [Act.put, s1_, s2_, s3_]
    refine take_e 49 (i := 23) (v := .int .u32 (IntKind.u32.wrap (D2))) rfl (by kernel_rfl) (Or.inl ⟨by kernel_rfl, fun w' hS => exec_conv32 _ rfl _ rfl⟩) hHeld ?_
    simp only [Act.put, s1_, s2_, s3_]
    refine take_e 50 (i := 24) (v := .int .u32 (IntKind.u32.wrap ((IntKind.u32.wrap (D2)) * 256))) rfl (by kernel_rfl) (Or.inl ⟨by kernel_rfl, fun w' hS => exec_shl32_8 _ _ rfl _ rfl⟩) hHeld ?_
    simp only [Act.put, s1_, s2_, s3_]
    refine take_e 51 (i := 25) (v := .int .u32 (or32 (or32 (IntKind.u32.wrap ((IntKind.u32.wrap (D0)) * 16777216)) (IntKind.u32.wrap ((IntKind.u32.wrap (D1)) * 65536))) (IntKind.u32.wrap ((IntKind.u32.wrap (D2)) * 256)))) rfl (by kernel_rfl) (Or.inl ⟨by kernel_rfl, fun w' hS => exec_or32 _ _ _ rfl _ _ rfl rfl⟩) hHeld ?_
    simp only [Act.put, s1_, s2_, s3_]
    refine take_e 52 (i := 26) (v := .slice (some ⟨bb, ob, none⟩) b.length cb) rfl (by kernel_rfl) (Or.inl ⟨by kernel_rfl, fun w' hS => exec_move _ rfl _ rfl⟩) hHeld ?_
    simp only [Act.put, s1_, s2_, s3_]
    refine take_e 53 (i := 27) (v := .int .i64 (i : Int)) rfl (by kernel_rfl) (Or.inl ⟨by kernel_rfl, fun w' hS => exec_move _ rfl _ rfl⟩) hHeld ?_
    simp only [Act.put, s1_, s2_, s3_]
    refine take_e 54 (i := 28) (v := .int .i64 (4 * (i : Int))) rfl (by kernel_rfl) (Or.inl ⟨by kernel_rfl, fun w' hS => exec_i64_mul _ _ _ rfl _ _ _ rfl rfl ((IntWalk.i64_in _ (by omega)).trans (by omega))⟩) hHeld ?_
    simp only [Act.put, s1_, s2_, s3_]
    refine take_e 55 (i := 29) (v := .int .i64 (4 * (i : Int) + 3)) rfl (by kernel_rfl) (Or.inl ⟨by kernel_rfl, fun w' hS => exec_i64_add _ _ _ rfl _ _ _ rfl rfl ((IntWalk.i64_in _ (by omega)).trans (by omega))⟩) hHeld ?_
    simp only [Act.put, s1_, s2_, s3_]
    refine take_e 56 (i := 30) (v := .pointer (some ⟨bb, ob + (4 * i + 3), none⟩)) rfl (by kernel_rfl) (Or.inl ⟨by kernel_rfl, fun w' hS => exec_index_u8 _ _ rfl bb ob _ cb (4 * (i : Int) + 3) (4 * i + 3) rfl rfl (by omega) (by omega)⟩) hHeld ?_
    simp only [Act.put, s1_, s2_, s3_]
    refine take_e 57 (i := 31) (v := .int .u8 (D3)) rfl (by kernel_rfl) (Or.inl ⟨by kernel_rfl, fun w' hS => exec_load_u8 _ rfl bb _ rfl _ (CD3.out w' hS)⟩) hHeld ?_
    simp only [Act.put, s1_, s2_, s3_]
    refine take_e 58 (i := 32) (v := .int .u32 (IntKind.u32.wrap (D3))) rfl (by kernel_rfl) (Or.inl ⟨by kernel_rfl, fun w' hS => exec_conv32 _ rfl _ rfl⟩) hHeld ?_
    simp only [Act.put, s1_, s2_, s3_]
    refine take_e 59 (i := 33) (v := .int .u32 (or32 (or32 (or32 (IntKind.u32.wrap ((IntKind.u32.wrap (D0)) * 16777216)) (IntKind.u32.wrap ((IntKind.u32.wrap (D1)) * 65536))) (IntKind.u32.wrap ((IntKind.u32.wrap (D2)) * 256))) (IntKind.u32.wrap (D3)))) rfl (by kernel_rfl) (Or.inl ⟨by kernel_rfl, fun w' hS => exec_or32 _ _ _ rfl _ _ rfl rfl⟩) hHeld ?_
    simp only [Act.put, s1_, s2_, s3_]
    refine take_e 60 (i := 34) (v := .pointer (some ⟨gw, i, none⟩)) rfl (by kernel_rfl) (Or.inl ⟨by kernel_rfl, fun w' hS => exec_index_arr102 _ _ rfl gw 0 (i : Int) i (i) rfl rfl (by omega) (by omega) (by omega)⟩) hHeld ?_
    simp only [Act.put, s1_, s2_, s3_]
    refine wpAnyH_ready (rs := [35]) (by kernel_rfl) (by simp) (AllReadyH.cons rfl (fun K hK => ?_) AllReadyH.nil)
    rw [if_pos (by kernel_rfl)]
    refine wp_u32_putD rfl _ _ rfl gw i 102 ws rfl HB.out (by have := HWL.out; omega) _ rfl ?_
    intro wp hbp hgp hsp
    have HX := hide (hHeld.grown hgp (by have := hHeld.size; omega) (by intro k hk; simp at hk; omega))
    replace HB := hide hbp
    clear hbp hgp hsp
    refine hK.out _ _ HX.out (fun hHeld => ?_)
    clear HX hK K
    try simp only [Act.put]
    refine wpAnyH_done (by kernel_rfl) ?_ _
    replace HV := hide hHeld
    clear hHeld
    go_wp2_with fail
    go_roundw
    case measure => simp [intOf]; omega
    case rel => exact ⟨i + 1, by omega, by go_num, by rw [HSC.out, HZ.out]; exact HB.out, HV.out⟩
  · have e16 : i = 16 := by omega
    subst e16
    replace HB := hide hblk
    have HV := hide hbel
    clear hblk hbel HWL hi16
    rw [show (((16 : Nat) : Int)) = 16 from rfl]
    go_wp2_with fail
    go_loopw [9] (fun v9 wr => ∃ i : Nat, 16 ≤ i ∧ i ≤ 64 ∧ v9 = .int .i64 i ∧ Blk wr gw 102 (u32s (schedN b i)) ∧ Below gw w3 wr) (fun v9 _ => 64 - (intOf v9).toNat)
    case atStart => exact ⟨16, by omega, by omega, rfl, HB.out, HV.out⟩
    case round =>
     obtain ⟨i, hi16, hi, rfl, hblk, hbel⟩ := hrel
     have HWL := hide (schedN_len b i)
     by_cases hi64 : i < 64
     · have HSC := hide (show schedN b (i + 1) = (schedN b i).set i (extN (schedN b i) i) by rw [schedN, if_neg (by omega)])
       obtain ⟨ws, HWS⟩ : ∃ x, Hid (schedN b i = x) := ⟨_, hide rfl⟩
       rw [HWS.out] at hblk HWL HSC
       have hwl := HWL.out
       replace HB := hide hblk
       replace HV := hide hbel
       clear hblk hbel
       obtain ⟨X16, HX16⟩ : ∃ x, Hid (ws.getD (i - 16) 0 = x) := ⟨_, hide rfl⟩
       obtain ⟨X15, HX15⟩ : ∃ x, Hid (ws.getD (i - 15) 0 = x) := ⟨_, hide rfl⟩
       obtain ⟨X7, HX7⟩ : ∃ x, Hid (ws.getD (i - 7) 0 = x) := ⟨_, hide rfl⟩
       obtain ⟨X2, HX2⟩ : ∃ x, Hid (ws.getD (i - 2) 0 = x) := ⟨_, hide rfl⟩
       have HZ := hide (show extN ws i = add32 (add32 (add32 X16 (sig0 X15)) X7) (sig1 X2) by unfold extN; rw [HX16.out, HX15.out, HX7.out, HX2.out])
       have i1 : (i : Int) < 64 := by omega
       go_upto_region 10 with fail
       refine wp_region_held_drew (S := fun w' => Below gw w3 w' ∧ Blk w' gw 102 (u32s ws)) (by kernel_rfl) ⟨HV.out.drew, HB.out.drew⟩ (fun hHeld => ?_)
       refine take_e 66 (i := 0) (v := .int .i64 (i : Int)) rfl (by kernel_rfl) (Or.inl ⟨by kernel_rfl, fun w' hS => exec_move _ rfl _ rfl⟩) hHeld ?_
       simp only [Act.put, s1_, s2_, s3_]
       refine take_e 67 (i := 1) (v := .int .i64 ((i : Int) - 15)) rfl (by kernel_rfl) (Or.inl ⟨by kernel_rfl, fun w' hS => exec_i64_sub _ _ _ rfl _ _ _ rfl rfl ((IntWalk.i64_in _ (by omega)).trans (by omega))⟩) hHeld ?_
       simp only [Act.put, s1_, s2_, s3_]
       refine take_e 68 (i := 2) (v := .pointer (some ⟨gw, (i - 15), none⟩)) rfl (by kernel_rfl) (Or.inl ⟨by kernel_rfl, fun w' hS => exec_index_arr102 _ _ rfl gw 0 ((i : Int) - 15) (i - 15) ((i - 15)) rfl rfl (by omega) (by omega) (by omega)⟩) hHeld ?_
       simp only [Act.put, s1_, s2_, s3_]
       refine take_e 69 (i := 3) (v := .int .u32 (X15)) rfl (by kernel_rfl) (Or.inl ⟨by kernel_rfl, fun w' hS => exec_load_u32 _ rfl gw _ rfl _ (blk_at hS.2 (i - 15) (by omega) (by omega) X15 HX15.out)⟩) hHeld ?_
       simp only [Act.put, s1_, s2_, s3_]
       refine take_e 70 (i := 4) (v := .int .i64 (i : Int)) rfl (by kernel_rfl) (Or.inl ⟨by kernel_rfl, fun w' hS => exec_move _ rfl _ rfl⟩) hHeld ?_
       simp only [Act.put, s1_, s2_, s3_]
       refine take_e 71 (i := 5) (v := .int .i64 ((i : Int) - 2)) rfl (by kernel_rfl) (Or.inl ⟨by kernel_rfl, fun w' hS => exec_i64_sub _ _ _ rfl _ _ _ rfl rfl ((IntWalk.i64_in _ (by omega)).trans (by omega))⟩) hHeld ?_
       simp only [Act.put, s1_, s2_, s3_]
       refine take_e 72 (i := 6) (v := .pointer (some ⟨gw, (i - 2), none⟩)) rfl (by kernel_rfl) (Or.inl ⟨by kernel_rfl, fun w' hS => exec_index_arr102 _ _ rfl gw 0 ((i : Int) - 2) (i - 2) ((i - 2)) rfl rfl (by omega) (by omega) (by omega)⟩) hHeld ?_
       simp only [Act.put, s1_, s2_, s3_]
       refine take_e 73 (i := 7) (v := .int .u32 (X2)) rfl (by kernel_rfl) (Or.inl ⟨by kernel_rfl, fun w' hS => exec_load_u32 _ rfl gw _ rfl _ (blk_at hS.2 (i - 2) (by omega) (by omega) X2 HX2.out)⟩) hHeld ?_
       simp only [Act.put, s1_, s2_, s3_]
       refine take_e 10 (i := 8) (v := .int .u32 (X15)) rfl (by kernel_rfl) (Or.inl ⟨by kernel_rfl, fun w' hS => exec_assign _ rfl _ rfl⟩) hHeld ?_
       simp only [Act.put, s1_, s2_, s3_]
       refine take_e 11 (i := 9) (v := .int .u32 (X2)) rfl (by kernel_rfl) (Or.inl ⟨by kernel_rfl, fun w' hS => exec_assign _ rfl _ rfl⟩) hHeld ?_
       simp only [Act.put, s1_, s2_, s3_]
       refine wpAnyH_done (by kernel_rfl) ?_ _
       replace HB := hide hHeld.2
       replace HV := hide hHeld.1
       clear hHeld
       go_wp2_with fail
       refine (rot_7 X15 _).mono ?_
       rintro e w' ⟨rfl, rfl⟩
       go_wp2_with fail
       refine (rot_18 X15 _).mono ?_
       rintro e w' ⟨rfl, rfl⟩
       go_wp2_with fail
       refine (rot_17 X2 _).mono ?_
       rintro e w' ⟨rfl, rfl⟩
       go_wp2_with fail
       refine (rot_19 X2 _).mono ?_
       rintro e w' ⟨rfl, rfl⟩
       go_upto_region 13 with fail
       refine wp_region_held_drew (S := fun w' => Below gw w3 w' ∧ ∀ j, j < i → ∀ x, ws.getD j 0 = x → w'.cell? ⟨gw, j, none⟩ = some (.int .u32 x)) (by kernel_rfl) ⟨HV.out.drew, fun j hj x hx => blk_at HB.out.drew j (by omega) (by omega) x hx⟩ (fun hHeld => ?_)
       replace HB := hide HB.out.drew
       refine take_e 90 (i := 0) (v := .int .i64 (i : Int)) rfl (by kernel_rfl) (Or.inl ⟨by kernel_rfl, fun w' hS => exec_move _ rfl _ rfl⟩) hHeld ?_
       simp only [Act.put, s1_, s2_, s3_]
       refine take_e 91 (i := 1) (v := .int .i64 (i : Int)) rfl (by kernel_rfl) (Or.inl ⟨by kernel_rfl, fun w' hS => exec_move _ rfl _ rfl⟩) hHeld ?_
       simp only [Act.put, s1_, s2_, s3_]
       refine take_e 92 (i := 2) (v := .int .i64 ((i : Int) - 16)) rfl (by kernel_rfl) (Or.inl ⟨by kernel_rfl, fun w' hS => exec_i64_sub _ _ _ rfl _ _ _ rfl rfl ((IntWalk.i64_in _ (by omega)).trans (by omega))⟩) hHeld ?_
       simp only [Act.put, s1_, s2_, s3_]
       refine take_e 93 (i := 3) (v := .pointer (some ⟨gw, (i - 16), none⟩)) rfl (by kernel_rfl) (Or.inl ⟨by kernel_rfl, fun w' hS => exec_index_arr102 _ _ rfl gw 0 ((i : Int) - 16) (i - 16) ((i - 16)) rfl rfl (by omega) (by omega) (by omega)⟩) hHeld ?_
       simp only [Act.put, s1_, s2_, s3_]
       refine take_e 94 (i := 4) (v := .int .u32 (X16)) rfl (by kernel_rfl) (Or.inl ⟨by kernel_rfl, fun w' hS => exec_load_u32 _ rfl gw _ rfl _ (hS.2 (i - 16) (by omega) X16 HX16.out)⟩) hHeld ?_
       simp only [Act.put, s1_, s2_, s3_]
       refine take_e 95 (i := 5) (v := .int .u32 (sig0 X15)) rfl (by kernel_rfl) (Or.inl ⟨by kernel_rfl, fun w' hS => exec_move _ rfl _ rfl⟩) hHeld ?_
       simp only [Act.put, s1_, s2_, s3_]
       refine take_e 96 (i := 6) (v := .int .u32 (add32 (X16) (sig0 X15))) rfl (by kernel_rfl) (Or.inl ⟨by kernel_rfl, fun w' hS => exec_add32 _ _ _ rfl _ _ rfl rfl⟩) hHeld ?_
       simp only [Act.put, s1_, s2_, s3_]
       refine take_e 97 (i := 7) (v := .int .i64 (i : Int)) rfl (by kernel_rfl) (Or.inl ⟨by kernel_rfl, fun w' hS => exec_move _ rfl _ rfl⟩) hHeld ?_
       simp only [Act.put, s1_, s2_, s3_]
       refine take_e 98 (i := 8) (v := .int .i64 ((i : Int) - 7)) rfl (by kernel_rfl) (Or.inl ⟨by kernel_rfl, fun w' hS => exec_i64_sub _ _ _ rfl _ _ _ rfl rfl ((IntWalk.i64_in _ (by omega)).trans (by omega))⟩) hHeld ?_
       simp only [Act.put, s1_, s2_, s3_]
       refine take_e 99 (i := 9) (v := .pointer (some ⟨gw, (i - 7), none⟩)) rfl (by kernel_rfl) (Or.inl ⟨by kernel_rfl, fun w' hS => exec_index_arr102 _ _ rfl gw 0 ((i : Int) - 7) (i - 7) ((i - 7)) rfl rfl (by omega) (by omega) (by omega)⟩) hHeld ?_
       simp only [Act.put, s1_, s2_, s3_]
       refine take_e 100 (i := 10) (v := .int .u32 (X7)) rfl (by kernel_rfl) (Or.inl ⟨by kernel_rfl, fun w' hS => exec_load_u32 _ rfl gw _ rfl _ (hS.2 (i - 7) (by omega) X7 HX7.out)⟩) hHeld ?_
       simp only [Act.put, s1_, s2_, s3_]
       refine take_e 101 (i := 11) (v := .int .u32 (add32 (add32 (X16) (sig0 X15)) (X7))) rfl (by kernel_rfl) (Or.inl ⟨by kernel_rfl, fun w' hS => exec_add32 _ _ _ rfl _ _ rfl rfl⟩) hHeld ?_
       simp only [Act.put, s1_, s2_, s3_]
       refine take_e 102 (i := 12) (v := .int .u32 (sig1 X2)) rfl (by kernel_rfl) (Or.inl ⟨by kernel_rfl, fun w' hS => exec_move _ rfl _ rfl⟩) hHeld ?_
       simp only [Act.put, s1_, s2_, s3_]
       refine take_e 103 (i := 13) (v := .int .u32 (add32 (add32 (add32 (X16) (sig0 X15)) (X7)) (sig1 X2))) rfl (by kernel_rfl) (Or.inl ⟨by kernel_rfl, fun w' hS => exec_add32 _ _ _ rfl _ _ rfl rfl⟩) hHeld ?_
       simp only [Act.put, s1_, s2_, s3_]
       refine take_e 104 (i := 14) (v := .pointer (some ⟨gw, i, none⟩)) rfl (by kernel_rfl) (Or.inl ⟨by kernel_rfl, fun w' hS => exec_index_arr102 _ _ rfl gw 0 (i : Int) i (i) rfl rfl (by omega) (by omega) (by omega)⟩) hHeld ?_
       simp only [Act.put, s1_, s2_, s3_]
       refine wpAnyH_ready (rs := [15]) (by kernel_rfl) (by simp) (AllReadyH.cons rfl (fun K hK => ?_) AllReadyH.nil)
       rw [if_pos (by kernel_rfl)]
       refine wp_u32_putD rfl _ _ rfl gw i 102 ws rfl HB.out (by have := HWL.out; omega) _ rfl ?_
       intro wp hbp hgp hsp
       have HX := hide (show _ ∧ ∀ j, j < i → ∀ x, ws.getD j 0 = x → wp.cell? ⟨gw, j, none⟩ = some (.int .u32 x) from ⟨hHeld.1.grown hgp (by have := hHeld.1.size; omega) (by intro k hk; simp at hk; omega), fun j hj x hx => blk_at hbp j (by omega) (by rw [List.length_set]; exact HWL.out) x (by rw [getD_set_ne ws (by omega)]; exact hx)⟩)
       replace HB := hide hbp
       clear hbp hgp hsp
       refine hK.out _ _ HX.out (fun hHeld => ?_)
       clear HX hK K
       try simp only [Act.put]
       refine wpAnyH_done (by kernel_rfl) ?_ _
       replace HV := hide hHeld.1
       clear hHeld
       go_wp2_with fail
       go_roundw
       case measure => simp [intOf]; omega
       case rel => exact ⟨i + 1, by omega, by omega, by go_num, by rw [HSC.out, HZ.out]; exact HB.out, HV.out⟩
     · have e64 : i = 64 := by omega
       subst e64
       obtain ⟨W, HWW⟩ : ∃ x, Hid (schedN b 64 = x) := ⟨_, hide rfl⟩
       rw [HWW.out] at hblk HMX HWL
       have BW := hide hblk
       replace HV := hide hbel
       clear hblk hbel HB hi64
       have hz := BW.out.lt
       obtain ⟨gv, hgv⟩ : ∃ g, wr.heap.size = g := ⟨_, rfl⟩
       rw [hgv] at hz
       replace BH := hide (BH.out.below HV.out (by omega))
       replace BR := hide (BR.out.below HV.out (by omega))
       replace HW := hide (HW.out.trans (HV.out.mono (by omega)))
       obtain ⟨w5, hw5⟩ : ∃ x, Hid (wr = x) := ⟨_, hide rfl⟩
       rw [hw5.out] at BW BH BR HW hgv ⊢
       clear HV hw5
       go_wp2_with (first
        | (refine wpList_load_blk rfl 104 _ rfl gh rfl _ _ BH.out 8 101 rfl (by rw [u32s_len, HH8.out]; exact size_a8) ?_)
        | (refine wpList_alloc_blk rfl 104 rfl _ zero_a8 ?_; intro w6 hb6 hw6 hs6; rw [hgv] at hb6 hw6 hs6 ⊢; have HB := hide hb6; have HV := hide hw6; clear hb6 hw6)
        | (refine wpList_store_blk rfl 104 _ _ rfl gv 0 (u32s h) rfl rfl _ _ HB.out (by rw [u32s_len, u32s_len, HH8.out]; simp) (by rw [u32s_len, HH8.out]; exact size_a8) (u32s_one _) ?_; intro w7 hb7 hg7 hs7; rw [lset_all _ _ (by rw [u32s_len, u32s_len, HH8.out]; simp)] at hb7; replace HB := hide hb7; replace HV := hide (HV.out.grown hg7 (by omega) (by intro k hk; simp at hk; omega)); clear hb7 hg7))
       go_loopw [106] (fun v106 wr => ∃ i : Nat, i ≤ 64 ∧ v106 = .int .i64 i ∧ Blk wr gv 104 (u32s (vN h ks W i)) ∧ Below gv w5 wr) (fun v106 _ => 64 - (intOf v106).toNat)
       case atStart => exact ⟨0, by omega, rfl, HB.out, HV.out⟩
       case round =>
        obtain ⟨i, hi, rfl, hblk, hbel⟩ := hrel
        have HVL := hide (HVL8.out W i)
        by_cases hi64 : i < 64
        · have HSC := hide (show vN h ks W (i + 1) = roundF (vN h ks W i) (ks.getD i 0) (W.getD i 0) from rfl)
          obtain ⟨vs, HVS⟩ : ∃ x, Hid (vN h ks W i = x) := ⟨_, hide rfl⟩
          rw [HVS.out] at hblk HVL HSC
          replace HB := hide hblk
          replace HV := hide hbel
          clear hblk hbel
          have HWI := hide (fun (w' : World) (hw : Below gv w5 w') => show w'.cell? ⟨gw, i, none⟩ = some (.int .u32 (W.getD i 0)) from (hw.cell (by exact hz)).trans (blk_u32 BW.out i (by have := HWL.out; omega)))
          have HKI := hide (fun (w' : World) (hw : Below gv w5 w') => HKI0.out i hi64 w' (by rw [hgh]; exact HW.out.trans (hw.mono (by omega))))
          obtain ⟨WI, HWI0⟩ : ∃ x, Hid (W.getD i 0 = x) := ⟨_, hide rfl⟩
          obtain ⟨KI, HKI2⟩ : ∃ x, Hid (ks.getD i 0 = x) := ⟨_, hide rfl⟩
          rw [HWI0.out] at HWI HSC
          rw [HKI2.out] at HKI HSC
          obtain ⟨V0, HV0⟩ : ∃ x, Hid (vs.getD 0 0 = x) := ⟨_, hide rfl⟩
          obtain ⟨V1, HV1⟩ : ∃ x, Hid (vs.getD 1 0 = x) := ⟨_, hide rfl⟩
          obtain ⟨V2, HV2⟩ : ∃ x, Hid (vs.getD 2 0 = x) := ⟨_, hide rfl⟩
          obtain ⟨V3, HV3⟩ : ∃ x, Hid (vs.getD 3 0 = x) := ⟨_, hide rfl⟩
          obtain ⟨V4, HV4⟩ : ∃ x, Hid (vs.getD 4 0 = x) := ⟨_, hide rfl⟩
          obtain ⟨V5, HV5⟩ : ∃ x, Hid (vs.getD 5 0 = x) := ⟨_, hide rfl⟩
          obtain ⟨V6, HV6⟩ : ∃ x, Hid (vs.getD 6 0 = x) := ⟨_, hide rfl⟩
          obtain ⟨V7, HV7⟩ : ∃ x, Hid (vs.getD 7 0 = x) := ⟨_, hide rfl⟩
          have HZ := hide (show roundF vs KI WI = [add32 (add32 (add32 (add32 (add32 (add32 V7 (eSig V4)) (chF V4 V5 V6)) KI) WI) (aSig V0)) (majF V0 V1 V2), V0, V1, V2, add32 V3 (add32 (add32 (add32 (add32 V7 (eSig V4)) (chF V4 V5 V6)) KI) WI), V4, V5, V6] by unfold roundF tF; rw [HV0.out, HV1.out, HV2.out, HV3.out, HV4.out, HV5.out, HV6.out, HV7.out])
          have i1 : (i : Int) < 64 := by omega
          have hzg := HB.out.lt
          go_upto_region 18 with fail
          refine wp_region_held_drew (S := fun w' => Below gv w5 w' ∧ Blk w' gv 104 (u32s vs)) (by kernel_rfl) ⟨HV.out.drew, HB.out.drew⟩ (fun hHeld => ?_)
          refine take_e 109 (i := 0) (v := .pointer (some ⟨gv, 4, none⟩)) rfl (by kernel_rfl) (Or.inl ⟨by kernel_rfl, fun w' hS => exec_index_arr104 _ _ rfl gv 0 4 4 (4) rfl rfl (by omega) (by omega) (by omega)⟩) hHeld ?_
          simp only [Act.put, s1_, s2_, s3_]
          refine take_e 110 (i := 1) (v := .int .u32 (V4)) rfl (by kernel_rfl) (Or.inl ⟨by kernel_rfl, fun w' hS => exec_load_u32 _ rfl gv _ rfl _ (blk_at8 hS.2 4 (by omega) HVL.out V4 HV4.out)⟩) hHeld ?_
          simp only [Act.put, s1_, s2_, s3_]
          refine take_e 111 (i := 2) (v := .pointer (some ⟨gv, 0, none⟩)) rfl (by kernel_rfl) (Or.inl ⟨by kernel_rfl, fun w' hS => exec_index_arr104 _ _ rfl gv 0 0 0 (0) rfl rfl (by omega) (by omega) (by omega)⟩) hHeld ?_
          simp only [Act.put, s1_, s2_, s3_]
          refine take_e 112 (i := 3) (v := .int .u32 (V0)) rfl (by kernel_rfl) (Or.inl ⟨by kernel_rfl, fun w' hS => exec_load_u32 _ rfl gv _ rfl _ (blk_at8 hS.2 0 (by omega) HVL.out V0 HV0.out)⟩) hHeld ?_
          simp only [Act.put, s1_, s2_, s3_]
          refine take_e 16 (i := 4) (v := .int .u32 (V4)) rfl (by kernel_rfl) (Or.inl ⟨by kernel_rfl, fun w' hS => exec_assign _ rfl _ rfl⟩) hHeld ?_
          simp only [Act.put, s1_, s2_, s3_]
          refine take_e 17 (i := 5) (v := .int .u32 (V0)) rfl (by kernel_rfl) (Or.inl ⟨by kernel_rfl, fun w' hS => exec_assign _ rfl _ rfl⟩) hHeld ?_
          simp only [Act.put, s1_, s2_, s3_]
          refine wpAnyH_done (by kernel_rfl) ?_ _
          replace HB := hide hHeld.2
          replace HV := hide hHeld.1
          clear hHeld
          go_wp2_with fail
          refine (rot_6 V4 _).mono ?_
          rintro e w' ⟨rfl, rfl⟩
          go_wp2_with fail
          refine (rot_11 V4 _).mono ?_
          rintro e w' ⟨rfl, rfl⟩
          go_wp2_with fail
          refine (rot_25 V4 _).mono ?_
          rintro e w' ⟨rfl, rfl⟩
          go_upto_region 20 with fail
          refine wp_region_held_drew (S := fun w' => Below gv w5 w' ∧ Blk w' gv 104 (u32s vs)) (by kernel_rfl) ⟨HV.out.drew, HB.out.drew⟩ (fun hHeld => ?_)
          refine take_e 121 (i := 0) (v := .pointer (some ⟨gv, 7, none⟩)) rfl (by kernel_rfl) (Or.inl ⟨by kernel_rfl, fun w' hS => exec_index_arr104 _ _ rfl gv 0 7 7 (7) rfl rfl (by omega) (by omega) (by omega)⟩) hHeld ?_
          simp only [Act.put, s1_, s2_, s3_]
          refine take_e 122 (i := 1) (v := .int .u32 (V7)) rfl (by kernel_rfl) (Or.inl ⟨by kernel_rfl, fun w' hS => exec_load_u32 _ rfl gv _ rfl _ (blk_at8 hS.2 7 (by omega) HVL.out V7 HV7.out)⟩) hHeld ?_
          simp only [Act.put, s1_, s2_, s3_]
          refine take_e 123 (i := 2) (v := .int .u32 (eSig V4)) rfl (by kernel_rfl) (Or.inl ⟨by kernel_rfl, fun w' hS => exec_move _ rfl _ rfl⟩) hHeld ?_
          simp only [Act.put, s1_, s2_, s3_]
          refine take_e 124 (i := 3) (v := .int .u32 (add32 (V7) (eSig V4))) rfl (by kernel_rfl) (Or.inl ⟨by kernel_rfl, fun w' hS => exec_add32 _ _ _ rfl _ _ rfl rfl⟩) hHeld ?_
          simp only [Act.put, s1_, s2_, s3_]
          refine take_e 125 (i := 4) (v := .int .u32 (V4)) rfl (by kernel_rfl) (Or.inl ⟨by kernel_rfl, fun w' hS => exec_move _ rfl _ rfl⟩) hHeld ?_
          simp only [Act.put, s1_, s2_, s3_]
          refine take_e 126 (i := 5) (v := .pointer (some ⟨gv, 5, none⟩)) rfl (by kernel_rfl) (Or.inl ⟨by kernel_rfl, fun w' hS => exec_index_arr104 _ _ rfl gv 0 5 5 (5) rfl rfl (by omega) (by omega) (by omega)⟩) hHeld ?_
          simp only [Act.put, s1_, s2_, s3_]
          refine take_e 127 (i := 6) (v := .int .u32 (V5)) rfl (by kernel_rfl) (Or.inl ⟨by kernel_rfl, fun w' hS => exec_load_u32 _ rfl gv _ rfl _ (blk_at8 hS.2 5 (by omega) HVL.out V5 HV5.out)⟩) hHeld ?_
          simp only [Act.put, s1_, s2_, s3_]
          refine take_e 128 (i := 7) (v := .int .u32 (and32 (V4) (V5))) rfl (by kernel_rfl) (Or.inl ⟨by kernel_rfl, fun w' hS => exec_and32 _ _ _ rfl _ _ rfl rfl⟩) hHeld ?_
          simp only [Act.put, s1_, s2_, s3_]
          refine take_e 129 (i := 8) (v := .int .u32 (V4)) rfl (by kernel_rfl) (Or.inl ⟨by kernel_rfl, fun w' hS => exec_move _ rfl _ rfl⟩) hHeld ?_
          simp only [Act.put, s1_, s2_, s3_]
          refine take_e 130 (i := 9) (v := .int .u32 (not32 (V4))) rfl (by kernel_rfl) (Or.inl ⟨by kernel_rfl, fun w' hS => exec_not32 _ rfl _ rfl⟩) hHeld ?_
          simp only [Act.put, s1_, s2_, s3_]
          refine take_e 131 (i := 10) (v := .pointer (some ⟨gv, 6, none⟩)) rfl (by kernel_rfl) (Or.inl ⟨by kernel_rfl, fun w' hS => exec_index_arr104 _ _ rfl gv 0 6 6 (6) rfl rfl (by omega) (by omega) (by omega)⟩) hHeld ?_
          simp only [Act.put, s1_, s2_, s3_]
          refine take_e 132 (i := 11) (v := .int .u32 (V6)) rfl (by kernel_rfl) (Or.inl ⟨by kernel_rfl, fun w' hS => exec_load_u32 _ rfl gv _ rfl _ (blk_at8 hS.2 6 (by omega) HVL.out V6 HV6.out)⟩) hHeld ?_
          simp only [Act.put, s1_, s2_, s3_]
          refine take_e 133 (i := 12) (v := .int .u32 (and32 (not32 (V4)) (V6))) rfl (by kernel_rfl) (Or.inl ⟨by kernel_rfl, fun w' hS => exec_and32 _ _ _ rfl _ _ rfl rfl⟩) hHeld ?_
          simp only [Act.put, s1_, s2_, s3_]
          refine take_e 134 (i := 13) (v := .int .u32 (xor32 (and32 (V4) (V5)) (and32 (not32 (V4)) (V6)))) rfl (by kernel_rfl) (Or.inl ⟨by kernel_rfl, fun w' hS => exec_xor32 _ _ _ rfl _ _ rfl rfl⟩) hHeld ?_
          simp only [Act.put, s1_, s2_, s3_]
          refine take_e 135 (i := 14) (v := .int .u32 (add32 (add32 (V7) (eSig V4)) (xor32 (and32 (V4) (V5)) (and32 (not32 (V4)) (V6))))) rfl (by kernel_rfl) (Or.inl ⟨by kernel_rfl, fun w' hS => exec_add32 _ _ _ rfl _ _ rfl rfl⟩) hHeld ?_
          simp only [Act.put, s1_, s2_, s3_]
          refine take_e 136 (i := 15) (v := .pointer (some ⟨gk, ok, none⟩)) rfl (by kernel_rfl) (Or.inl ⟨by kernel_rfl, fun w' hS => exec_move _ rfl _ rfl⟩) hHeld ?_
          simp only [Act.put, s1_, s2_, s3_]
          refine take_e 137 (i := 16) (v := .int .i64 (i : Int)) rfl (by kernel_rfl) (Or.inl ⟨by kernel_rfl, fun w' hS => exec_move _ rfl _ rfl⟩) hHeld ?_
          simp only [Act.put, s1_, s2_, s3_]
          refine take_e 138 (i := 17) (v := .pointer (some ⟨gk, ok, none⟩)) rfl (by kernel_rfl) (Or.inl ⟨by kernel_rfl, fun w' hS => exec_nilCheck _ rfl _ rfl⟩) hHeld ?_
          simp only [Act.put, s1_, s2_, s3_]
          refine take_e 139 (i := 18) (v := .pointer (some ⟨gk, ok + i, none⟩)) rfl (by kernel_rfl) (Or.inl ⟨by kernel_rfl, fun w' hS => exec_index_arr102 _ _ rfl gk ok (i : Int) i (ok + i) rfl rfl (by omega) (by omega) (by omega)⟩) hHeld ?_
          simp only [Act.put, s1_, s2_, s3_]
          refine take_e 140 (i := 19) (v := .int .u32 (KI)) rfl (by kernel_rfl) (Or.inl ⟨by kernel_rfl, fun w' hS => exec_load_u32 _ rfl gk _ rfl _ (HKI.out w' hS.1)⟩) hHeld ?_
          simp only [Act.put, s1_, s2_, s3_]
          refine take_e 141 (i := 20) (v := .int .u32 (add32 (add32 (add32 (V7) (eSig V4)) (xor32 (and32 (V4) (V5)) (and32 (not32 (V4)) (V6)))) (KI))) rfl (by kernel_rfl) (Or.inl ⟨by kernel_rfl, fun w' hS => exec_add32 _ _ _ rfl _ _ rfl rfl⟩) hHeld ?_
          simp only [Act.put, s1_, s2_, s3_]
          refine take_e 142 (i := 21) (v := .int .i64 (i : Int)) rfl (by kernel_rfl) (Or.inl ⟨by kernel_rfl, fun w' hS => exec_move _ rfl _ rfl⟩) hHeld ?_
          simp only [Act.put, s1_, s2_, s3_]
          refine take_e 143 (i := 22) (v := .pointer (some ⟨gw, i, none⟩)) rfl (by kernel_rfl) (Or.inl ⟨by kernel_rfl, fun w' hS => exec_index_arr102 _ _ rfl gw 0 (i : Int) i (i) rfl rfl (by omega) (by omega) (by omega)⟩) hHeld ?_
          simp only [Act.put, s1_, s2_, s3_]
          refine take_e 144 (i := 23) (v := .int .u32 (WI)) rfl (by kernel_rfl) (Or.inl ⟨by kernel_rfl, fun w' hS => exec_load_u32 _ rfl gw _ rfl _ (HWI.out w' hS.1)⟩) hHeld ?_
          simp only [Act.put, s1_, s2_, s3_]
          refine take_e 145 (i := 24) (v := .int .u32 (add32 (add32 (add32 (add32 (V7) (eSig V4)) (xor32 (and32 (V4) (V5)) (and32 (not32 (V4)) (V6)))) (KI)) (WI))) rfl (by kernel_rfl) (Or.inl ⟨by kernel_rfl, fun w' hS => exec_add32 _ _ _ rfl _ _ rfl rfl⟩) hHeld ?_
          simp only [Act.put, s1_, s2_, s3_]
          refine take_e 19 (i := 25) (v := .int .u32 (add32 (add32 (add32 (add32 (V7) (eSig V4)) (xor32 (and32 (V4) (V5)) (and32 (not32 (V4)) (V6)))) (KI)) (WI))) rfl (by kernel_rfl) (Or.inl ⟨by kernel_rfl, fun w' hS => exec_assign _ rfl _ rfl⟩) hHeld ?_
          simp only [Act.put, s1_, s2_, s3_]
          refine wpAnyH_done (by kernel_rfl) ?_ _
          replace HB := hide hHeld.2
          replace HV := hide hHeld.1
          clear hHeld
          obtain ⟨TT, HTT⟩ : ∃ x, Hid (add32 (add32 (add32 (add32 V7 (eSig V4)) (xor32 (and32 V4 V5) (and32 (not32 V4) V6))) KI) WI = x) := ⟨_, hide rfl⟩
          rw [HTT.out]
          go_wp2_with fail
          refine (rot_2 V0 _).mono ?_
          rintro e w' ⟨rfl, rfl⟩
          go_wp2_with fail
          refine (rot_13 V0 _).mono ?_
          rintro e w' ⟨rfl, rfl⟩
          go_wp2_with fail
          refine (rot_22 V0 _).mono ?_
          rintro e w' ⟨rfl, rfl⟩
          have hb8 := HB.out
          have c1 := blk_at8 hb8 1 (by omega) HVL.out V1 HV1.out
          have c2 := blk_at8 hb8 2 (by omega) HVL.out V2 HV2.out
          have c3 := blk_at8 hb8 3 (by omega) HVL.out V3 HV3.out
          have c5 := blk_at8 hb8 5 (by omega) HVL.out V5 HV5.out
          have c6 := blk_at8 hb8 6 (by omega) HVL.out V6 HV6.out
          go_upto_region 23 with fail
          obtain ⟨UU, HUU⟩ : ∃ x, Hid (bits .xor .u32 (bits .xor .u32 (rotF V0 2) (rotF V0 13)) (rotF V0 22) = x) := ⟨_, hide rfl⟩
          obtain ⟨MM, HMM⟩ : ∃ x, Hid (bits .xor .u32 (bits .xor .u32 (bits .and .u32 V0 V1) (bits .and .u32 V0 V2)) (bits .and .u32 V1 V2) = x) := ⟨_, hide rfl⟩
          rw [HUU.out, HMM.out]
          replace HZ := hide (show roundF vs KI WI = [add32 (add32 TT UU) MM, V0, V1, V2, add32 V3 TT, V4, V5, V6] by rw [HZ.out, ← HTT.out, ← HUU.out, ← HMM.out]; rfl)
          have ha1 : ∀ x y : Int, (x + y) % 4294967296 = add32 x y := fun x y => (IntKind.wrap_u32 _).symm
          go_wp2_with (first
           | (refine wpList_build_a8 rfl _ _ _ _ _ _ _ _ rfl (add32 (add32 TT UU) MM) V0 V1 V2 (add32 V3 TT) V4 V5 V6 (by exact congrArg (Value.int .u32) (by first | rfl | (rw [ha1, ha1]))) rfl rfl rfl (by exact congrArg (Value.int .u32) (by first | rfl | (rw [ha1]))) rfl rfl rfl ?_)
           | (refine wpList_store_blk rfl 104 _ _ rfl gv 0 (u32s [add32 (add32 TT UU) MM, V0, V1, V2, add32 V3 TT, V4, V5, V6]) rfl rfl _ _ HB.out (by rw [u32s_len, u32s_len, HVL.out]; simp) (by rw [u32s_len]; exact size_a8) (u32s_one _) ?_; intro w7 hb7 hg7 hs7; rw [lset_all _ _ (by rw [u32s_len, u32s_len, HVL.out]; rfl)] at hb7; have HB2 := hide hb7; replace HV := hide (HV.out.grown hg7 (by have := HV.out.size; omega) (by intro k hk; simp at hk; omega)); clear hb7 hg7 hb8 c1 c2 c3 c5 c6))
          go_roundw
          case measure => simp [intOf]; omega
          case rel => exact ⟨i + 1, by omega, by go_num, by rw [HSC.out, HZ.out]; exact HB2.out, HV.out⟩
        · have e64 : i = 64 := by omega
          subst e64
          have HNX := hide (fun (i : Nat) (V : List Int) => show hN h V (i + 1) = (hN h V i).set i (add32 ((hN h V i).getD i 0) (V.getD i 0)) from rfl)
          obtain ⟨VF, HVF⟩ : ∃ x, Hid (vN h ks W 64 = x) := ⟨_, hide rfl⟩
          rw [HVF.out] at hblk HMX HVL
          have HG := hide hblk
          replace HV := hide hbel
          clear hblk hbel HB hi64
          have HB := hide (BH.out.below HV.out (by omega))
          have HR := hide (BR.out.below HV.out (by omega))
          have HWO := hide (show Below w.heap.size w wr by rw [hgh]; exact HW.out.trans (HV.out.mono (by omega)))
          clear HV BW BH BR HW
          go_wp2_with fail
          go_loopw [190] (fun v190 wr => ∃ i : Nat, i ≤ 8 ∧ v190 = .int .i64 i ∧ Blk wr gh 104 (u32s (hN h VF i)) ∧ Blk wr gv 104 (u32s VF) ∧ Blk wr (gh + 1) 104 (u32s (List.replicate 8 0)) ∧ Below w.heap.size w wr) (fun v190 _ => 8 - (intOf v190).toNat)
          case atStart => exact ⟨0, by omega, rfl, HB.out, HG.out, HR.out, HWO.out⟩
          case round =>
           obtain ⟨i, hi, rfl, hblk, hgv8, hr8, hbel⟩ := hrel
           have HHL := hide (HNL.out VF i)
           by_cases hi8 : i < 8
           · have HSC := hide (HNX.out i VF)
             obtain ⟨hs, HHS⟩ : ∃ x, Hid (hN h VF i = x) := ⟨_, hide rfl⟩
             rw [HHS.out] at hblk HHL HSC
             replace HB := hide hblk
             replace HG := hide hgv8
             replace HR := hide hr8
             have HW := hide hbel
             clear hblk hgv8 hr8 hbel
             obtain ⟨HI, HHI⟩ : ∃ x, Hid (hs.getD i 0 = x) := ⟨_, hide rfl⟩
             obtain ⟨VI, HVI⟩ : ∃ x, Hid (VF.getD i 0 = x) := ⟨_, hide rfl⟩
             rw [HHI.out, HVI.out] at HSC
             have i1 : (i : Int) < 8 := by omega
             go_upto_region 28 with fail
             refine wp_region_held_drew (S := fun w' => Below w.heap.size w w' ∧ Blk w' gv 104 (u32s VF)) (by kernel_rfl) ⟨HW.out.drew, HG.out.drew⟩ (fun hHeld => ?_)
             replace HB := hide HB.out.drew
             replace HR := hide HR.out.drew
             refine take_e 193 (i := 0) (v := .int .i64 (i : Int)) rfl (by kernel_rfl) (Or.inl ⟨by kernel_rfl, fun w' hS => exec_move _ rfl _ rfl⟩) hHeld ?_
             simp only [Act.put, s1_, s2_, s3_]
             refine take_e 194 (i := 1) (v := .int .i64 (i : Int)) rfl (by kernel_rfl) (Or.inl ⟨by kernel_rfl, fun w' hS => exec_move _ rfl _ rfl⟩) hHeld ?_
             simp only [Act.put, s1_, s2_, s3_]
             refine take_e 195 (i := 2) (v := .pointer (some ⟨gh, i, none⟩)) rfl (by kernel_rfl) (Or.inl ⟨by kernel_rfl, fun w' hS => exec_index_arr104 _ _ rfl gh 0 (i : Int) i (i) rfl rfl (by omega) (by omega) (by omega)⟩) hHeld ?_
             simp only [Act.put, s1_, s2_, s3_]
             refine take_e 197 (i := 4) (v := .int .i64 (i : Int)) rfl (by kernel_rfl) (Or.inl ⟨by kernel_rfl, fun w' hS => exec_move _ rfl _ rfl⟩) hHeld ?_
             simp only [Act.put, s1_, s2_, s3_]
             refine take_e 198 (i := 5) (v := .pointer (some ⟨gv, i, none⟩)) rfl (by kernel_rfl) (Or.inl ⟨by kernel_rfl, fun w' hS => exec_index_arr104 _ _ rfl gv 0 (i : Int) i (i) rfl rfl (by omega) (by omega) (by omega)⟩) hHeld ?_
             simp only [Act.put, s1_, s2_, s3_]
             refine take_e 199 (i := 6) (v := .int .u32 (VI)) rfl (by kernel_rfl) (Or.inl ⟨by kernel_rfl, fun w' hS => exec_load_u32 _ rfl gv _ rfl _ (blk_at8 hS.2 i (by omega) HVL.out VI HVI.out)⟩) hHeld ?_
             simp only [Act.put, s1_, s2_, s3_]
             refine wpAnyH_ready (rs := [3]) (by kernel_rfl) (by simp) (AllReadyH.cons rfl (fun K hK => ?_) AllReadyH.nil)
             rw [if_pos (by kernel_rfl)]
             refine wp_load_u32D 196 rfl _ rfl gh _ rfl _ (blk_at8 HB.out i (by omega) HHL.out HI HHI.out) ?_
             refine hK.out _ _ hHeld (fun hHeld => ?_)
             clear hK K
             simp only [Act.put, s1_, s2_, s3_]
             refine take_e 200 (i := 7) (v := .int .u32 (add32 (HI) (VI))) rfl (by kernel_rfl) (Or.inl ⟨by kernel_rfl, fun w' hS => exec_add32 _ _ _ rfl _ _ rfl rfl⟩) hHeld ?_
             simp only [Act.put, s1_, s2_, s3_]
             refine take_e 201 (i := 8) (v := .pointer (some ⟨gh, i, none⟩)) rfl (by kernel_rfl) (Or.inl ⟨by kernel_rfl, fun w' hS => exec_index_arr104 _ _ rfl gh 0 (i : Int) i (i) rfl rfl (by omega) (by omega) (by omega)⟩) hHeld ?_
             simp only [Act.put, s1_, s2_, s3_]
             refine wpAnyH_ready (rs := [9]) (by kernel_rfl) (by simp) (AllReadyH.cons rfl (fun K hK => ?_) AllReadyH.nil)
             rw [if_pos (by kernel_rfl)]
             refine wp_u32_putD rfl _ _ rfl gh i 104 hs rfl HB.out (by have := HHL.out; omega) _ rfl ?_
             intro wp hbp hgp hsp
             have HX := hide (show _ ∧ _ from ⟨hHeld.1.grown hgp hHeld.1.size (by intro k hk; simp at hk; omega), hHeld.2.grown hgp (by intro h; injection h with h; omega)⟩)
             replace HB := hide hbp
             replace HR := hide (HR.out.grown hgp (by intro h; injection h with h; omega))
             clear hbp hgp hsp
             refine hK.out _ _ HX.out (fun hHeld => ?_)
             clear HX hK K
             try simp only [Act.put]
             refine wpAnyH_done (by kernel_rfl) ?_ _
             replace HW := hide hHeld.1
             replace HG := hide hHeld.2
             clear hHeld
             go_wp2_with fail
             go_roundw
             case measure => simp [intOf]; omega
             case rel => exact ⟨i + 1, by omega, by go_num, by rw [HSC.out]; exact HB.out, HG.out, HR.out, HW.out⟩
           · have e8 : i = 8 := by omega
             subst e8
             rw [← HMX.out] at hblk HHL
             replace HB := hide hblk
             replace HR := hide hr8
             have HW := hide hbel
             clear hblk hgv8 hr8 hbel
             go_wp2_with (first
              | (refine wpList_load_blk rfl 104 _ rfl gh rfl _ _ HB.out 8 101 rfl (by rw [u32s_len, HHL.out]; exact size_a8) ?_)
              | (refine wpList_store_blk rfl 104 _ _ rfl (gh + 1) 0 (u32s RES) rfl rfl _ _ HR.out (by rw [u32s_len, u32s_len, HHL.out]; simp) (by rw [u32s_len, HHL.out]; exact size_a8) (u32s_one _) ?_; intro w7 hb7 hg7 hs7; rw [lset_all _ _ (by rw [u32s_len, u32s_len, HHL.out]; rfl)] at hb7; have HR2 := hide hb7; replace HW := hide (HW.out.grown hg7 HW.out.size (by intro k hk; simp at hk; omega)); clear hb7 hg7))
             refine bodyPost_ret (v := .agg (u32s RES).toArray) (results_cell_row rfl _ _ (gh + 1) 104 _ (0, 0) _ rfl HR2.out Tryd.underlying104 rfl (by rw [List.size_toArray, u32s_len, HHL.out]; exact size_a8)) rfl ?_
             exact ⟨rfl, HW.out⟩
end Go.Proofs.YthdjgebbjogmiaaDoor
