/- The document's hash of bytes. Condition: at most 2^46 bytes. -/
import Derived.Test.YthdjgebbjogmiaaDoorJoin11
import Derived.Test.YthdjgebbjogmiaaDoorJoin26
set_option linter.unusedVariables false
set_option linter.unusedSimpArgs false
namespace Go.Proofs.YthdjgebbjogmiaaDoor
open Go Go.RowKit
set_option linter.unusedVariables false
set_option linter.unusedSimpArgs false

section
variable {o : Oper} {a : Act} {w : World} {K : Act → World → Prop} {Q : Exit → Act → World → Prop}
theorem size_u8 : (Tryd.prog.info? 5).map (·.size) = some 1 := by kernel_rfl
theorem wp_u8_put (x y : Operand) (ho : o.op = .store 5 x y) (g i : Nat) (t : TypeId) (xs : List Int) (hx : a.eval x = .pointer (some ⟨g, i, none⟩)) (hB : Blk w g t (u8s xs)) (hi : i < xs.length) (z : Int) (hy : a.eval y = .int .u8 z)
 (h : ∀ w', Blk w' g t (u8s (xs.set i z)) → w.grownBy w' (some g) → w'.heap.size = w.heap.size → K (a.put o.dst undef) w') : o.wp Tryd.prog a w K Q := by
 have hg := grown_setCells (g := g) [Value.int .u8 z] w i
 refine wp_store_one _ x y ho g i hx _ hy (by rw [blk_u8 hB i hi]; rfl) (hB.frozen _) rfl size_u8 (h _ ?_ hg.1 hg.2)
 have := hB.set_ i (.int .u8 z)
 rwa [u8s_set] at this
theorem wp_u8_putD (hd : o.dst = none) (x y : Operand) (ho : o.op = .store 5 x y) (g i : Nat) (t : TypeId) (xs : List Int) (hx : a.eval x = .pointer (some ⟨g, i, none⟩)) (hB : Blk w g t (u8s xs)) (hi : i < xs.length) (z : Int) (hy : a.eval y = .int .u8 z)
 (h : ∀ w', Blk w' g t (u8s (xs.set i z)) → w.grownBy w' (some g) → w'.heap.size = w.heap.size → K (a.put none undef) w') : o.wp Tryd.prog a w K Q :=
 wp_u8_put x y ho g i t xs hx hB hi z hy fun w' h1 h2 h3 => by rw [hd]; exact h w' h1 h2 h3
theorem wpList_u8_put {ops : Array Oper} {rest : List Oper} (hgd : o.guard = none) (x y : Operand) (ho : o.op = .store 5 x y) (g i : Nat) (t : TypeId) (xs : List Int) (hx : a.eval x = .pointer (some ⟨g, i, none⟩)) (hB : Blk w g t (u8s xs)) (hi : i < xs.length) (z : Int) (hy : a.eval y = .int .u8 z)
 (h : ∀ w', Blk w' g t (u8s (xs.set i z)) → w.grownBy w' (some g) → w'.heap.size = w.heap.size → wpList Tryd.prog ops Q rest (a.put o.dst undef) w') : wpList Tryd.prog ops Q (o :: rest) a w :=
 wpList_plain hgd fun _ hK => wp_u8_put x y ho g i t xs hx hB hi z hy fun w' h1 h2 h3 => hK _ _ (h w' h1 h2 h3)
theorem exec_index_hash (x y : Operand) (ho : o.op = .indexAddr 25 x y) (g : Nat) (k : Int) (j : Nat) (hx : a.eval x = .pointer (some ⟨g, 0, none⟩)) (hy : a.eval y = .int .i64 k) (hk : k = (j : Int) ∧ j < 32) : (execOp a.eval o).run Tryd.prog w = .ok (.value (.pointer (some ⟨g, j, none⟩))) w := by
 obtain ⟨hk, hj⟩ := hk
 subst hk
 unfold execOp
 simp only [ho, hx, hy]
 have h0 : (0 : Int) ≤ (j : Int) := by omega
 have h1 : (j : Int) < 32 := by omega
 go_simp
theorem wpList_build_iv {ops : Array Oper} {rest : List Oper} (hgd : o.guard = none) (ho : o.op = .build 104 #[(0, .const (.int .u32 1779033703)), (1, .const (.int .u32 3144134277)), (2, .const (.int .u32 1013904242)), (3, .const (.int .u32 2773480762)), (4, .const (.int .u32 1359893119)), (5, .const (.int .u32 2600822924)), (6, .const (.int .u32 528734635)), (7, .const (.int .u32 1541459225))])
 (h : wpList Tryd.prog ops Q rest (a.put o.dst (.agg (u32s iv).toArray)) w) : wpList Tryd.prog ops Q (o :: rest) a w :=
 wpList_build_a8 hgd _ _ _ _ _ _ _ _ ho 1779033703 3144134277 1013904242 2773480762 1359893119 2600822924 528734635 1541459225 rfl rfl rfl rfl rfl rfl rfl rfl h
end
theorem set4 (xs : List Int) (n : Nat) (a b c d : Int) : lset (u8s xs) n (u8s [a, b, c, d]) = u8s ((((xs.set n a).set (n + 1) b).set (n + 2) c).set (n + 3) d) := by
 simp [lset, u8s]

set_option maxRecDepth 100000
set_option maxHeartbeats 40000000 in
theorem Sum_ref (v : Value) (b : List Int) (w : World) (hv : Bs w w.heap.size v b) (hb : Bytes b) (hn : b.length ≤ 70368744177664) :
 Calls Tryd.prog 72 #[v] w fun e w' => e = .returned (.agg (u8s (shaF b)).toArray) ∧ Below w.heap.size w w' := by
 have HV := hide hv
 have HBY := hide hb
 obtain ⟨A, cp0, rfl, h1, h2, h3⟩ := hv.open_
 unfold maxLen at h2
 obtain ⟨R, HR0⟩ : ∃ n : Nat, Hid (b.length = n) := ⟨_, hide rfl⟩
 rw [HR0.out] at hn HV h1 ⊢
 obtain ⟨Z, HZ⟩ : ∃ n : Nat, Hid (zc R = n) := ⟨_, hide rfl⟩
 have hZ64 : Z < 64 := by rw [← HZ.out]; exact zc_lt _
 have HZE := hide (show (R + 1 + Z) % 64 = 56 by rw [← HZ.out]; exact zc_ends R)
 have HZB := hide (fun j (hj : j < Z) => show (R + 1 + j) % 64 ≠ 56 from zc_before R j (by rw [HZ.out]; exact hj))
 obtain ⟨P8, HP8⟩ : ∃ x, Hid (putF (IntKind.i64.wrap (8 * (R : Int))) 8 = x) := ⟨_, hide rfl⟩
 have HP8L := hide (show P8.length = 8 by rw [← HP8.out]; unfold putF; rw [putN_len]; rfl)
 have HP8B := hide (show Bytes P8 by rw [← HP8.out]; exact putF_bytes _ _)
 have HPM := hide (show putF (8 * (R : Int)) 8 = P8 by rw [← HP8.out, IntWalk.i64_in _ (by omega)])
 have HXN := hide (fun j => show (b ++ 128 :: List.replicate j 0) ++ [0] = b ++ 128 :: List.replicate (j + 1) 0 by rw [List.append_assoc, List.cons_append, ← List.replicate_succ'])
 have HXL := hide (fun j => show (b ++ 128 :: List.replicate j 0).length = R + 1 + j by rw [List.length_append, List.length_cons, List.length_replicate, HR0.out]; omega)
 have HN8 := hide (show -9223372036854775808 ≤ 8 * (R : Int) ∧ 8 * (R : Int) ≤ 9223372036854775807 by omega)
 obtain ⟨J, HJ⟩ : ∃ n : Nat, Hid ((R + 72) / 64 = n) := ⟨_, hide rfl⟩
 have hJ1 : 1 ≤ J ∧ J ≤ 1099511627800 := by have := HJ.out; omega
 obtain ⟨RES, HRES⟩ : ∃ x, Hid (shaF b = x) := ⟨_, hide rfl⟩
 obtain ⟨M, HM⟩ : ∃ x, Hid (padF b = x) := ⟨_, hide rfl⟩
 have HRS := hide (show outF (blocksN kT iv M J) = RES by rw [← HRES.out, ← HM.out, ← HJ.out, ← HR0.out]; rfl)
 have HME := hide (show b ++ 128 :: List.replicate Z 0 ++ P8 = M by rw [← HM.out]; unfold padF tailF; rw [HR0.out, HZ.out, HP8.out, List.append_assoc])
 have hML : M.length = 64 * J := by rw [← HM.out, padF_len, HR0.out, HJ.out]
 have HML := hide hML
 have HBL := hide (fun i => blocksN_len kT iv M iv_len i)
 have HBM := hide (fun i => show blocksN kT iv M (i + 1) = mixF kT (blocksN kT iv M i) (M.drop (64 * i)) from rfl)
 have HOUT := hide (show ∀ x ∈ blocksN kT iv M J, 0 ≤ x ∧ x < 4294967296 by
  obtain ⟨k, hk⟩ : ∃ k, J = k + 1 := ⟨J - 1, by omega⟩
  rw [hk, blocksN]
  exact mixF_words _ _ _ (blocksN_len _ _ _ iv_len _))
 have HMG := hide (fun i j => show (M.drop (64 * i)).getD j 0 = M.getD (64 * i + j) 0 by rw [List.getD_eq_getElem?_getD, List.getElem?_drop, List.getD_eq_getElem?_getD])
 have HVN := hide (fun (H ws : List Int) (i : Nat) => show vN H kT ws (i + 1) = roundF (vN H kT ws i) (kT.getD i 0) (ws.getD i 0) from rfl)
 have HMXD := hide (fun (H b : List Int) => show mixF kT H b = hN H (vN H kT (schedN b 64) 64) 8 from rfl)
 have HKL := hide kT_len
 obtain ⟨KT, HKT⟩ : ∃ x, Hid (kT = x) := ⟨_, hide rfl⟩
 obtain ⟨IV, HIV⟩ : ∃ x, Hid (iv = x) := ⟨_, hide rfl⟩
 obtain ⟨KTV, HKTV⟩ : ∃ x, Hid (Value.agg (u32s KT).toArray = x) := ⟨_, hide rfl⟩
 have HRD := hide (fun w => by have := rounds_ref w; rw [HKT.out, HKTV.out] at this; exact this)
 rw [HKT.out] at HKL HRS
 rw [HIV.out] at HRS
 rw [HKT.out, HIV.out] at HBL HBM HOUT
 simp only [HKT.out] at HVN HMXD
 have HIL := hide (show IV.length = 8 by rw [← HIV.out]; exact iv_len)
 rw [HRES.out]
 have ha1 : ∀ x y : Int, (x + y) % 4294967296 = add32 x y := fun x y => (IntKind.wrap_u32 _).symm
 clear hv hb h3 HM
 go_enter Tryd.func72, Tryd.ntmps72
 obtain ⟨gr, hgr⟩ : ∃ n, w.heap.size = n := ⟨_, rfl⟩
 go_wp2_with (refine wpList_alloc_blk rfl 25 rfl _ zero_hash ?_; intro w1 hb1 hw1 hs1; rw [hgr] at hb1 hs1; try rw [hgr]; have HR := hide hb1; have HW := hide hw1; have hz1 : gr + 1 ≤ w1.heap.size := (by omega); clear hb1 hw1 hs1)
 refine (HRD.out _).mono ?_
 rintro e w2 ⟨rfl, hb⟩
 replace HR := hide (HR.out.below hb HR.out.lt)
 replace HW := hide (HW.out.trans (hb.mono HW.out.size))
 have hz2 := hb.size
 clear hb
 obtain ⟨gk, hgk⟩ : ∃ n, w2.heap.size = n := ⟨_, rfl⟩
 have hgk1 : gr < gk := by omega
 go_wp2_with (first
  | (refine wpList_alloc_blk rfl 102 rfl _ zero_a64 ?_; intro w3 hb3 hw3 hs3; rw [hgk] at hb3 hs3; try rw [hgk]; have HK := hide hb3; replace HR := hide (HR.out.below hw3 HR.out.lt); replace HW := hide (HW.out.trans (hw3.mono HW.out.size)); have hz3 : gk + 1 ≤ w3.heap.size := (by omega); clear hb3 hw3 hs3)
  | (refine wpList_store_blk rfl 102 _ _ rfl gk 0 (u32s KT) rfl HKTV.out.symm _ _ HK.out (by rw [u32s_len, u32s_len, HKL.out]; simp) (by rw [u32s_len, HKL.out]; exact size_a64) (u32s_one _) ?_; intro w4 hb4 hg4 hs4; rw [lset_all _ _ (by rw [u32s_len, u32s_len, HKL.out]; simp)] at hb4; replace HK := hide hb4; replace HR := hide (HR.out.grown hg4 (by intro h; injection h with h; omega)); replace HW := hide (HW.out.grown hg4 HW.out.size (by intro k hk; simp at hk; omega)); have hz4 : gk + 1 ≤ w4.heap.size := (by omega); clear hb4 hg4 hs4)
  | (refine wpList_build_iv rfl rfl ?_; rw [HIV.out])
  | (refine wpList_alloc_blk rfl 104 rfl _ zero_a8 ?_; intro w5 hb5 hw5 hs5; obtain ⟨gh, hgh⟩ : ∃ n, w4.heap.size = n := ⟨_, rfl⟩; have hgh1 : gk < gh := (by have := HK.out.lt; omega); rw [hgh] at hb5 hs5; try rw [hgh]; have HH := hide hb5; replace HR := hide (HR.out.below hw5 HR.out.lt); replace HK := hide (HK.out.below hw5 HK.out.lt); replace HW := hide (HW.out.trans (hw5.mono HW.out.size)); have hz5 : gh + 1 ≤ w5.heap.size := (by omega); clear hb5 hw5 hs5)
  | (refine wpList_store_blk rfl 104 _ _ rfl gh 0 (u32s IV) rfl rfl _ _ HH.out (by rw [u32s_len, u32s_len, HIL.out]; simp) (by rw [u32s_len, HIL.out]; exact size_a8) (u32s_one _) ?_; intro w6 hb6 hg6 hs6; rw [lset_all _ _ (by rw [u32s_len, u32s_len, HIL.out]; simp)] at hb6; replace HH := hide hb6; replace HR := hide (HR.out.grown hg6 (by intro h; injection h with h; omega)); replace HK := hide (HK.out.grown hg6 (by intro h; injection h with h; omega)); replace HW := hide (HW.out.grown hg6 HW.out.size (by intro k hk; simp at hk; omega)); have hz6 : gh + 1 ≤ w6.heap.size := (by omega); have HV6 := hide (HV.out.below HW.out (Nat.le_refl _)); have HF := hide (Below.refl w6.heap.size w6); clear hb6 hg6 hs6)
  | (at_builtin; refine wpList_append_B rfl _ _ rfl w6.heap.size v29 b rfl HO8.out _ _ [128] rfl HL8.out (by intro x hx; simp at hx; omega) (by rw [HR0.out]; simp; omega) HF.out.size ?_; intro v31 w9 ho9 hg9; have HO9 := hide ho9; replace HF := hide (HF.out.grown hg9 HF.out.size (fun k hk => (HO8.out.base_ k hk).1)); clear ho9 hg9 HO8 HL8)
  | (at_builtin; refine wpList_append_B rfl _ _ rfl w6.heap.size (.slice none 0 0) [] rfl (RowB.nil_ _ _) w.heap.size _ b rfl HV6.out HBY.out (by rw [HR0.out]; simp; omega) (Nat.le_refl _) ?_; intro v29 w7 ho7 hg7; rw [List.nil_append] at ho7; have HO7 := hide ho7; replace HF := hide (HF.out.grown hg7 (Nat.le_refl _) (by intro k hk; simp [Value.ownBlock] at hk)); clear ho7 hg7 HV6)
  | (refine wpList_lit1v rfl _ rfl _ rfl 128 rfl ?_; intro g8 w8 bk8 hg8 hb8; have HL8 := hide ((RowB.of_blk (base := 0) bk8 (by omega) (by intro x hx; simp at hx; omega) (by unfold maxLen; simp)).reads); have HO8 := hide (HO7.out.keptB hb8); replace HF := hide (HF.out.trans (hb8.mono HF.out.size)); clear bk8 hg8 hb8 HO7))
 have HO9x := hide (show RowB w9 w6.heap.size v31 (b ++ 128 :: List.replicate 0 0) from HO9.out)
 go_loopw [5] (fun v5 wr => ∃ j : Nat, j ≤ Z ∧ RowB wr w6.heap.size v5 (b ++ 128 :: List.replicate j 0) ∧ Below w6.heap.size w6 wr) (fun v5 _ => (match v5 with | .slice _ n _ => 100000000000000000 - n | _ => 0))
 case atStart => exact ⟨0, by omega, HO9x.out, HF.out⟩
 case round =>
  obtain ⟨j, hj, ho, hw⟩ := hrel
  clear HO9x HO9 HF
  have HO := hide ho
  have HF := hide hw
  have hwz := hw.size
  have hql := HXL.out j
  have HXJ := hide (HXN.out j)
  obtain ⟨X, HX⟩ : ∃ x, Hid (b ++ 128 :: List.replicate j 0 = x) := ⟨_, hide rfl⟩
  rw [HX.out] at HO HXJ hql
  obtain ⟨A3, c3, rfl⟩ := HO.out.shape
  obtain ⟨q, HQ⟩ : ∃ n : Nat, Hid (X.length = n) := ⟨_, hide rfl⟩
  have HQX := HQ
  rw [HQ.out] at hql HO ⊢
  obtain ⟨m, HM⟩ : ∃ n : Nat, Hid (q % 64 = n) := ⟨_, hide rfl⟩
  have hm1 : (q : Int) % 64 = (m : Int) := by rw [← HM.out]; omega
  have hm2 : m < 64 := by rw [← HM.out]; omega
  have hq2 : q ≤ 70368744178000 := by omega
  have HQL := hide hql
  clear ho hw hql
  by_cases hjz : j < Z
  · have hb : ((m : Int) != 56) = true := by
     have := HZB.out j hjz
     have e := HM.out
     rw [HQL.out] at e
     have : m ≠ 56 := by omega
     simp; omega
    go_wp2_with (first
     | (at_builtin; refine wpList_append_B rfl _ _ rfl w6.heap.size _ X rfl HO5.out _ _ [0] rfl HL5.out (by intro x hx; simp at hx; omega) (by rw [HQ.out]; simp; omega) (by omega) ?_; intro va wa hoa hga; have HOA := hide hoa; replace HF := hide (HF.out.grown hga (by omega) (fun k hk => (HO5.out.base_ k hk).1)); clear hoa hga HO5 HL5)
     | (refine wpList_lit1v rfl _ rfl _ rfl 0 rfl ?_; intro g5 w5' bk5 hg5 hb5; have HL5 := hide ((RowB.of_blk (base := 0) bk5 (by omega) (by intro x hx; simp at hx; omega) (by unfold maxLen; simp)).reads); have HO5 := hide (HO.out.keptB hb5); replace HF := hide (HF.out.trans (hb5.mono hwz)); have hz5' := hb5.size; clear bk5 hg5 hb5))
    go_roundw
    case measure =>
     obtain ⟨A6, c6, rfl⟩ := HOA.out.shape
     have := HQX.out
     simp
     omega
    case rel => exact ⟨j + 1, by omega, by rw [← HXJ.out]; exact HOA.out, HF.out⟩
  · have e : j = Z := by omega
    subst e
    have hb : ((m : Int) != 56) = false := by
     have := HZE.out
     have e := HM.out
     rw [HQL.out] at e
     have : m = 56 := by omega
     simp; omega
    rw [HX.out] at HME
    clear HZB HZE HXN HXL HXJ
    replace HW := hide (HW.out.trans (HF.out.mono HW.out.size))
    replace HR := hide (HR.out.below HF.out HR.out.lt)
    replace HK := hide (HK.out.below HF.out HK.out.lt)
    replace HH := hide (HH.out.below HF.out HH.out.lt)
    clear HF
    go_wp2_with fail
    refine (Put_ref (8 * (R : Int)) 8 _ HN8.out (by omega)).mono ?_
    rintro e wb ⟨v43, rfl, hob, hbb⟩
    rw [HPM.out] at hob
    have HP := hide hob.reads
    replace HO := hide (HO.out.keptB hbb)
    replace HW := hide (HW.out.trans (hbb.mono HW.out.size))
    replace HR := hide (HR.out.below hbb HR.out.lt)
    replace HK := hide (HK.out.below hbb HK.out.lt)
    replace HH := hide (HH.out.below hbb HH.out.lt)
    have hzb := hbb.size
    clear hob hbb
    go_wp2_with (at_builtin; refine wpList_append_B rfl _ _ rfl w6.heap.size (.slice A3 q c3) X rfl HO.out _ _ P8 rfl HP.out HP8B.out (by rw [HQ.out, HP8L.out]; omega) (by omega) ?_; intro v44 wc hoc hgc; rw [HME.out] at hoc; have HO2 := hide hoc; have hzc := hgc.size; replace HW := hide (HW.out.grown hgc HW.out.size (fun k hk => by have := (HO.out.base_ k hk).1; omega)); replace HR := hide (HR.out.grown hgc (by intro he; have := (HO.out.base_ gr he.symm).1; omega)); replace HK := hide (HK.out.grown hgc (by intro he; have := (HO.out.base_ gk he.symm).1; omega)); replace HH := hide (HH.out.grown hgc (by intro he; have := (HO.out.base_ gh he.symm).1; omega)); clear hoc hgc HP)
    obtain ⟨r, o, c, rfl, hc1, hc2, hF⟩ := (Suf.of_row HO2.out (show gh < w6.heap.size by omega)).pos (by rw [HML.out]; omega)
    unfold maxLen at hc2
    rw [HML.out] at hF hc1 ⊢
    have HF := hide hF
    clear hF HO2 HO
    go_loopw [6] (fun v6 wr => ∃ t : Nat, t ≤ J ∧ v6 = .int .i64 (64 * (t : Int)) ∧ Suf wr gh (.slice (some ⟨r, o, none⟩) (64 * J) c) M ∧ Blk wr gh 104 (u32s (blocksN KT IV M t)) ∧ Blk wr gk 102 (u32s KT) ∧ Blk wr gr 25 (u8s (List.replicate 32 0)) ∧ Below w.heap.size w wr) (fun v6 _ => 64 * J - (intOf v6).toNat)
    case atStart => exact ⟨0, by omega, by simp, HF.out, HH.out, HK.out, HR.out, HW.out⟩
    case round =>
     obtain ⟨t, ht, rfl, hf, hh, hk, hr, hw⟩ := hrel
     rename World => wo
     clear HF HH HK HR HW
     have HF := hide hf
     have HHB := hide hh
     have HK := hide hk
     have HR := hide hr
     have HW := hide hw
     have HHL := hide (HBL.out t)
     clear hf hh hk hr hw
     by_cases htj : t < J
     · have i1 : (64 * (t : Int)) < ((64 * J : Nat) : Int) := by omega
       obtain ⟨gw, hgw⟩ : ∃ n, wo.heap.size = n := ⟨_, rfl⟩
       have hgw1 : gh < gw := by have := HHB.out.lt; omega
       have hgw2 : gk < gw := by have := HK.out.lt; omega
       have hgw3 : gr < gw := by have := HR.out.lt; omega
       have HBX := hide (HBM.out t)
       obtain ⟨H, HHX⟩ : ∃ x, Hid (blocksN KT IV M t = x) := ⟨_, hide rfl⟩
       obtain ⟨bt, HBT⟩ : ∃ x, Hid (M.drop (64 * t) = x) := ⟨_, hide rfl⟩
       rw [HHX.out] at HHB HHL HBX
       rw [HBT.out] at HBX
       have HBG := hide (HMG.out t)
       rw [HBT.out] at HBG
       have HCB := hide (fun (j : Nat) (hj : j < 64) (w' : World) (hw : Below gw wo w') => show w'.cell? ⟨r, o + (64 * t + j), none⟩ = some (.int .u8 (bt.getD j 0)) by
        have hrd := HF.out.keptB (w' := w') (by rw [hgw]; exact hw)
        obtain ⟨A', c', e', _, _, h3'⟩ := hrd.reads.open_
        injection e' with e1 e2 e3
        obtain ⟨b', o', e4, _, hcc⟩ := h3' (by rw [HML.out]; omega)
        rw [← e1] at e4
        injection e4 with e4
        injection e4 with e5 e6
        subst e5 e6
        exact hcc (64 * t + j) _ (by rw [HML.out]; omega) (HBG.out j).symm)
       as_aux_lemma =>
        go_wp2_with (refine wpList_alloc_blk rfl 102 rfl _ zero_a64 ?_; intro wx hbx hwx hsx; rw [hgw] at hbx hwx hsx; try rw [hgw]; have HB := hide hbx; have HV2 := hide hwx; have hzx : gw + 1 ≤ wx.heap.size := (by omega); clear hbx hwx hsx)
        go_loopw [8] (fun v8 wq => ∃ i : Nat, i ≤ 16 ∧ v8 = .int .i64 i ∧ Blk wq gw 102 (u32s (schedN bt i)) ∧ Below gw wo wq) (fun v8 _ => 16 - (intOf v8).toNat)
        case atStart => exact ⟨0, by omega, rfl, HB.out, HV2.out⟩
        case round =>
         obtain ⟨i, hi, rfl, hblk, hbel⟩ := hrel
         clear HB HV2
         have HWL := hide (schedN_len bt i)
         by_cases hi16 : i < 16
         · have HSC := hide (show schedN bt (i + 1) = (schedN bt i).set i (wordN bt i) by rw [schedN, if_pos hi16])
           obtain ⟨ws, HWS⟩ : ∃ x, Hid (schedN bt i = x) := ⟨_, hide rfl⟩
           rw [HWS.out] at hblk HWL HSC
           have HB := hide hblk
           have HV := hide hbel
           clear hblk hbel
           as_aux_lemma =>
            have i16 : (i : Int) < 16 := by omega
            have j1 : (64 * (t : Int) + 4 * (i : Int)) ≤ ((64 * J : Nat) : Int) := by omega
            have j2 : (0 : Int) ≤ 64 * (t : Int) + 4 * (i : Int) := by omega
            have j3 : ¬ c = 64 * t + 4 * i := by omega
            have j4 : ¬ 64 * t + 4 * i = c := by omega
            go_upto_region 15 with fail
            obtain ⟨op, hop⟩ : ∃ x, o + (64 * t + 4 * i) = x := ⟨_, rfl⟩
            obtain ⟨np, hnp⟩ : ∃ x, 64 * J - (64 * t + 4 * i) = x := ⟨_, rfl⟩
            obtain ⟨cp, hcp⟩ : ∃ x, c - (64 * t + 4 * i) = x := ⟨_, rfl⟩
            rw [hop, hnp, hcp]
            have hnp4 : 4 ≤ np := by omega
            have CD0 := hide (fun (w' : World) (hw : Below gw wo w') => show w'.cell? ⟨r, op + 0, none⟩ = some (.int .u8 (bt.getD (4 * i) 0)) by have := HCB.out (4 * i) (by omega) w' hw; rw [show op + 0 = o + (64 * t + 4 * i) by omega]; exact this)
            have CD1 := hide (fun (w' : World) (hw : Below gw wo w') => show w'.cell? ⟨r, op + 1, none⟩ = some (.int .u8 (bt.getD (4 * i + 1) 0)) by have := HCB.out (4 * i + 1) (by omega) w' hw; rw [show op + 1 = o + (64 * t + (4 * i + 1)) by omega]; exact this)
            have CD2 := hide (fun (w' : World) (hw : Below gw wo w') => show w'.cell? ⟨r, op + 2, none⟩ = some (.int .u8 (bt.getD (4 * i + 2) 0)) by have := HCB.out (4 * i + 2) (by omega) w' hw; rw [show op + 2 = o + (64 * t + (4 * i + 2)) by omega]; exact this)
            have CD3 := hide (fun (w' : World) (hw : Below gw wo w') => show w'.cell? ⟨r, op + 3, none⟩ = some (.int .u8 (bt.getD (4 * i + 3) 0)) by have := HCB.out (4 * i + 3) (by omega) w' hw; rw [show op + 3 = o + (64 * t + (4 * i + 3)) by omega]; exact this)
            obtain ⟨D0, HD0⟩ : ∃ x, Hid (bt.getD (4 * i) 0 = x) := ⟨_, hide rfl⟩
            obtain ⟨D1, HD1⟩ : ∃ x, Hid (bt.getD (4 * i + 1) 0 = x) := ⟨_, hide rfl⟩
            obtain ⟨D2, HD2⟩ : ∃ x, Hid (bt.getD (4 * i + 2) 0 = x) := ⟨_, hide rfl⟩
            obtain ⟨D3, HD3⟩ : ∃ x, Hid (bt.getD (4 * i + 3) 0 = x) := ⟨_, hide rfl⟩
            rw [HD0.out] at CD0
            rw [HD1.out] at CD1
            rw [HD2.out] at CD2
            rw [HD3.out] at CD3
            have HZW := hide (show wordN bt i = or32 (or32 (or32 (IntKind.u32.wrap (IntKind.u32.wrap D0 * 16777216)) (IntKind.u32.wrap (IntKind.u32.wrap D1 * 65536))) (IntKind.u32.wrap (IntKind.u32.wrap D2 * 256))) (IntKind.u32.wrap D3) by unfold wordN; rw [HD0.out, HD1.out, HD2.out, HD3.out])
            refine wp_region_held_drew (S := fun w' => Below gw wo w') (by kernel_rfl) HV.out.drew (fun hHeld => ?_)
            replace HB := hide HB.out.drew
            refine take_e 61 (i := 0) (v := .int .i64 (i : Int)) rfl (by kernel_rfl) (Or.inl ⟨by kernel_rfl, fun w' hS => exec_move _ rfl _ rfl⟩) hHeld ?_
            try simp only [Act.put, s1_, s2_, s3_]
            refine take_e 62 (i := 1) (v := .slice (some ⟨r, op, none⟩) np cp) rfl (by kernel_rfl) (Or.inl ⟨by kernel_rfl, fun w' hS => exec_move _ rfl _ rfl⟩) hHeld ?_
            try simp only [Act.put, s1_, s2_, s3_]
            refine take_e 63 (i := 2) (v := .pointer (some ⟨r, op + 0, none⟩)) rfl (by kernel_rfl) (Or.inl ⟨by kernel_rfl, fun w' hS => exec_index_u8 _ _ rfl r op _ cp 0 0 rfl rfl (by omega) (by omega)⟩) hHeld ?_
            try simp only [Act.put, s1_, s2_, s3_]
            refine take_e 64 (i := 3) (v := .int .u8 (D0)) rfl (by kernel_rfl) (Or.inl ⟨by kernel_rfl, fun w' hS => exec_load_u8 _ rfl r _ rfl _ (CD0.out w' hS)⟩) hHeld ?_
            try simp only [Act.put, s1_, s2_, s3_]
            refine take_e 65 (i := 4) (v := .int .u32 (IntKind.u32.wrap (D0))) rfl (by kernel_rfl) (Or.inl ⟨by kernel_rfl, fun w' hS => exec_conv32 _ rfl _ rfl⟩) hHeld ?_
            try simp only [Act.put, s1_, s2_, s3_]
            refine take_e 66 (i := 5) (v := .int .u32 (IntKind.u32.wrap ((IntKind.u32.wrap (D0)) * 16777216))) rfl (by kernel_rfl) (Or.inl ⟨by kernel_rfl, fun w' hS => exec_shl32_24 _ _ rfl _ rfl⟩) hHeld ?_
            try simp only [Act.put, s1_, s2_, s3_]
            refine take_e 67 (i := 6) (v := .slice (some ⟨r, op, none⟩) np cp) rfl (by kernel_rfl) (Or.inl ⟨by kernel_rfl, fun w' hS => exec_move _ rfl _ rfl⟩) hHeld ?_
            try simp only [Act.put, s1_, s2_, s3_]
            refine take_e 68 (i := 7) (v := .pointer (some ⟨r, op + 1, none⟩)) rfl (by kernel_rfl) (Or.inl ⟨by kernel_rfl, fun w' hS => exec_index_u8 _ _ rfl r op _ cp 1 1 rfl rfl (by omega) (by omega)⟩) hHeld ?_
            try simp only [Act.put, s1_, s2_, s3_]
            refine take_e 69 (i := 8) (v := .int .u8 (D1)) rfl (by kernel_rfl) (Or.inl ⟨by kernel_rfl, fun w' hS => exec_load_u8 _ rfl r _ rfl _ (CD1.out w' hS)⟩) hHeld ?_
            try simp only [Act.put, s1_, s2_, s3_]
            refine take_e 70 (i := 9) (v := .int .u32 (IntKind.u32.wrap (D1))) rfl (by kernel_rfl) (Or.inl ⟨by kernel_rfl, fun w' hS => exec_conv32 _ rfl _ rfl⟩) hHeld ?_
            try simp only [Act.put, s1_, s2_, s3_]
            refine take_e 71 (i := 10) (v := .int .u32 (IntKind.u32.wrap ((IntKind.u32.wrap (D1)) * 65536))) rfl (by kernel_rfl) (Or.inl ⟨by kernel_rfl, fun w' hS => exec_shl32_16 _ _ rfl _ rfl⟩) hHeld ?_
            try simp only [Act.put, s1_, s2_, s3_]
            refine take_e 72 (i := 11) (v := .int .u32 (or32 (IntKind.u32.wrap ((IntKind.u32.wrap (D0)) * 16777216)) (IntKind.u32.wrap ((IntKind.u32.wrap (D1)) * 65536)))) rfl (by kernel_rfl) (Or.inl ⟨by kernel_rfl, fun w' hS => exec_or32 _ _ _ rfl _ _ rfl rfl⟩) hHeld ?_
            try simp only [Act.put, s1_, s2_, s3_]
            refine take_e 73 (i := 12) (v := .slice (some ⟨r, op, none⟩) np cp) rfl (by kernel_rfl) (Or.inl ⟨by kernel_rfl, fun w' hS => exec_move _ rfl _ rfl⟩) hHeld ?_
            try simp only [Act.put, s1_, s2_, s3_]
            refine take_e 74 (i := 13) (v := .pointer (some ⟨r, op + 2, none⟩)) rfl (by kernel_rfl) (Or.inl ⟨by kernel_rfl, fun w' hS => exec_index_u8 _ _ rfl r op _ cp 2 2 rfl rfl (by omega) (by omega)⟩) hHeld ?_
            try simp only [Act.put, s1_, s2_, s3_]
            refine take_e 75 (i := 14) (v := .int .u8 (D2)) rfl (by kernel_rfl) (Or.inl ⟨by kernel_rfl, fun w' hS => exec_load_u8 _ rfl r _ rfl _ (CD2.out w' hS)⟩) hHeld ?_
            try simp only [Act.put, s1_, s2_, s3_]
            refine take_e 76 (i := 15) (v := .int .u32 (IntKind.u32.wrap (D2))) rfl (by kernel_rfl) (Or.inl ⟨by kernel_rfl, fun w' hS => exec_conv32 _ rfl _ rfl⟩) hHeld ?_
            try simp only [Act.put, s1_, s2_, s3_]
            refine take_e 77 (i := 16) (v := .int .u32 (IntKind.u32.wrap ((IntKind.u32.wrap (D2)) * 256))) rfl (by kernel_rfl) (Or.inl ⟨by kernel_rfl, fun w' hS => exec_shl32_8 _ _ rfl _ rfl⟩) hHeld ?_
            try simp only [Act.put, s1_, s2_, s3_]
            refine take_e 78 (i := 17) (v := .int .u32 (or32 (or32 (IntKind.u32.wrap ((IntKind.u32.wrap (D0)) * 16777216)) (IntKind.u32.wrap ((IntKind.u32.wrap (D1)) * 65536))) (IntKind.u32.wrap ((IntKind.u32.wrap (D2)) * 256)))) rfl (by kernel_rfl) (Or.inl ⟨by kernel_rfl, fun w' hS => exec_or32 _ _ _ rfl _ _ rfl rfl⟩) hHeld ?_
            try simp only [Act.put, s1_, s2_, s3_]
            refine take_e 79 (i := 18) (v := .slice (some ⟨r, op, none⟩) np cp) rfl (by kernel_rfl) (Or.inl ⟨by kernel_rfl, fun w' hS => exec_move _ rfl _ rfl⟩) hHeld ?_
            try simp only [Act.put, s1_, s2_, s3_]
            refine take_e 80 (i := 19) (v := .pointer (some ⟨r, op + 3, none⟩)) rfl (by kernel_rfl) (Or.inl ⟨by kernel_rfl, fun w' hS => exec_index_u8 _ _ rfl r op _ cp 3 3 rfl rfl (by omega) (by omega)⟩) hHeld ?_
            try simp only [Act.put, s1_, s2_, s3_]
            refine take_e 81 (i := 20) (v := .int .u8 (D3)) rfl (by kernel_rfl) (Or.inl ⟨by kernel_rfl, fun w' hS => exec_load_u8 _ rfl r _ rfl _ (CD3.out w' hS)⟩) hHeld ?_
            try simp only [Act.put, s1_, s2_, s3_]
            refine take_e 82 (i := 21) (v := .int .u32 (IntKind.u32.wrap (D3))) rfl (by kernel_rfl) (Or.inl ⟨by kernel_rfl, fun w' hS => exec_conv32 _ rfl _ rfl⟩) hHeld ?_
            try simp only [Act.put, s1_, s2_, s3_]
            refine take_e 83 (i := 22) (v := .int .u32 (or32 (or32 (or32 (IntKind.u32.wrap ((IntKind.u32.wrap (D0)) * 16777216)) (IntKind.u32.wrap ((IntKind.u32.wrap (D1)) * 65536))) (IntKind.u32.wrap ((IntKind.u32.wrap (D2)) * 256))) (IntKind.u32.wrap (D3)))) rfl (by kernel_rfl) (Or.inl ⟨by kernel_rfl, fun w' hS => exec_or32 _ _ _ rfl _ _ rfl rfl⟩) hHeld ?_
            try simp only [Act.put, s1_, s2_, s3_]
            refine take_e 84 (i := 23) (v := .pointer (some ⟨gw, i, none⟩)) rfl (by kernel_rfl) (Or.inl ⟨by kernel_rfl, fun w' hS => exec_index_arr102 _ _ rfl gw 0 (i : Int) i (i) rfl rfl (by omega) (by omega) (by omega)⟩) hHeld ?_
            try simp only [Act.put, s1_, s2_, s3_]
            refine wpAnyH_ready (rs := [24]) (by kernel_rfl) (by simp) (AllReadyH.cons rfl (fun K hK => ?_) AllReadyH.nil)
            rw [if_pos (by kernel_rfl)]
            refine wp_u32_putD rfl _ _ rfl gw i 102 ws rfl HB.out (by have := HWL.out; omega) _ rfl ?_
            intro wp hbp hgp hsp
            have HX := hide (hHeld.grown hgp (by have := hHeld.size; omega) (by intro k hk; simp at hk; omega))
            replace HB := hide hbp
            clear hbp hgp hsp
            refine hK.out _ _ HX.out (fun hHeld => ?_)
            clear HX hK K
            try simp only [Act.put, s1_, s2_, s3_]
            refine wpAnyH_done (by kernel_rfl) ?_ _
            replace HV := hide hHeld
            clear hHeld
            go_wp2_with fail
            go_roundw
            case measure => simp [intOf]; omega
            case rel => exact ⟨i + 1, by omega, by go_num, by rw [HSC.out, HZW.out]; exact HB.out, HV.out⟩
         · have e16 : i = 16 := by omega
           subst e16
           have HB := hide hblk
           have HV := hide hbel
           clear hblk hbel HWL hi16
           rw [show (((16 : Nat) : Int)) = 16 from rfl]
           go_wp2_with fail
           go_loopw [10] (fun v10 wq => ∃ i : Nat, 16 ≤ i ∧ i ≤ 64 ∧ v10 = .int .i64 i ∧ Blk wq gw 102 (u32s (schedN bt i)) ∧ Below gw wo wq) (fun v10 _ => 64 - (intOf v10).toNat)
           case atStart => exact ⟨16, by omega, by omega, rfl, HB.out, HV.out⟩
           case round =>
            obtain ⟨i, hi16, hi, rfl, hblk, hbel⟩ := hrel
            have HWL := hide (schedN_len bt i)
            by_cases hi64 : i < 64
            · have HSC := hide (show schedN bt (i + 1) = (schedN bt i).set i (extN (schedN bt i) i) by rw [schedN, if_neg (by omega)])
              obtain ⟨ws, HWS⟩ : ∃ x, Hid (schedN bt i = x) := ⟨_, hide rfl⟩
              rw [HWS.out] at hblk HWL HSC
              have hwl := HWL.out
              replace HB := hide hblk
              replace HV := hide hbel
              clear hblk hbel
              as_aux_lemma =>
               obtain ⟨X16, HX16⟩ : ∃ x, Hid (ws.getD (i - 16) 0 = x) := ⟨_, hide rfl⟩
               obtain ⟨X15, HX15⟩ : ∃ x, Hid (ws.getD (i - 15) 0 = x) := ⟨_, hide rfl⟩
               obtain ⟨X7, HX7⟩ : ∃ x, Hid (ws.getD (i - 7) 0 = x) := ⟨_, hide rfl⟩
               obtain ⟨X2, HX2⟩ : ∃ x, Hid (ws.getD (i - 2) 0 = x) := ⟨_, hide rfl⟩
               have HZW := hide (show extN ws i = add32 (add32 (add32 (X16) (xor32 (xor32 (rotF X15 7) (rotF X15 18)) ((X15) / 8))) (X7)) (xor32 (xor32 (rotF X2 17) (rotF X2 19)) ((X2) / 1024)) by unfold extN sig0 sig1; rw [HX16.out, HX15.out, HX7.out, HX2.out])
               have i1 : (i : Int) < 64 := by omega
               go_upto_region 19 with fail
               refine wp_region_held_drew (S := fun w' => Below gw wo w' ∧ Blk w' gw 102 (u32s ws)) (by kernel_rfl) ⟨HV.out.drew, HB.out.drew⟩ (fun hHeld => ?_)
               refine take_e 89 (i := 0) (v := .int .i64 (i : Int)) rfl (by kernel_rfl) (Or.inl ⟨by kernel_rfl, fun w' hS => exec_move _ rfl _ rfl⟩) hHeld ?_
               try simp only [Act.put, s1_, s2_, s3_]
               refine take_e 90 (i := 1) (v := .int .i64 ((i : Int) - 15)) rfl (by kernel_rfl) (Or.inl ⟨by kernel_rfl, fun w' hS => exec_i64_sub _ _ _ rfl _ _ _ rfl rfl ((IntWalk.i64_in _ (by omega)).trans (by omega))⟩) hHeld ?_
               try simp only [Act.put, s1_, s2_, s3_]
               refine take_e 91 (i := 2) (v := .pointer (some ⟨gw, (i - 15), none⟩)) rfl (by kernel_rfl) (Or.inl ⟨by kernel_rfl, fun w' hS => exec_index_arr102 _ _ rfl gw 0 ((i : Int) - 15) (i - 15) ((i - 15)) rfl rfl (by omega) (by omega) (by omega)⟩) hHeld ?_
               try simp only [Act.put, s1_, s2_, s3_]
               refine take_e 92 (i := 3) (v := .int .u32 (X15)) rfl (by kernel_rfl) (Or.inl ⟨by kernel_rfl, fun w' hS => exec_load_u32 _ rfl gw _ rfl _ (blk_at hS.2 (i - 15) (by omega) (by omega) X15 HX15.out)⟩) hHeld ?_
               try simp only [Act.put, s1_, s2_, s3_]
               refine take_e 93 (i := 4) (v := .int .i64 (i : Int)) rfl (by kernel_rfl) (Or.inl ⟨by kernel_rfl, fun w' hS => exec_move _ rfl _ rfl⟩) hHeld ?_
               try simp only [Act.put, s1_, s2_, s3_]
               refine take_e 94 (i := 5) (v := .int .i64 ((i : Int) - 2)) rfl (by kernel_rfl) (Or.inl ⟨by kernel_rfl, fun w' hS => exec_i64_sub _ _ _ rfl _ _ _ rfl rfl ((IntWalk.i64_in _ (by omega)).trans (by omega))⟩) hHeld ?_
               try simp only [Act.put, s1_, s2_, s3_]
               refine take_e 95 (i := 6) (v := .pointer (some ⟨gw, (i - 2), none⟩)) rfl (by kernel_rfl) (Or.inl ⟨by kernel_rfl, fun w' hS => exec_index_arr102 _ _ rfl gw 0 ((i : Int) - 2) (i - 2) ((i - 2)) rfl rfl (by omega) (by omega) (by omega)⟩) hHeld ?_
               try simp only [Act.put, s1_, s2_, s3_]
               refine take_e 96 (i := 7) (v := .int .u32 (X2)) rfl (by kernel_rfl) (Or.inl ⟨by kernel_rfl, fun w' hS => exec_load_u32 _ rfl gw _ rfl _ (blk_at hS.2 (i - 2) (by omega) (by omega) X2 HX2.out)⟩) hHeld ?_
               try simp only [Act.put, s1_, s2_, s3_]
               refine take_e 11 (i := 8) (v := .int .u32 (X15)) rfl (by kernel_rfl) (Or.inl ⟨by kernel_rfl, fun w' hS => exec_assign _ rfl _ rfl⟩) hHeld ?_
               try simp only [Act.put, s1_, s2_, s3_]
               refine take_e 12 (i := 9) (v := .int .u32 (X2)) rfl (by kernel_rfl) (Or.inl ⟨by kernel_rfl, fun w' hS => exec_assign _ rfl _ rfl⟩) hHeld ?_
               try simp only [Act.put, s1_, s2_, s3_]
               refine wpAnyH_done (by kernel_rfl) ?_ _
               replace HB := hide hHeld.2
               replace HV := hide hHeld.1
               clear hHeld
               go_upto_region 20 with fail
               refine wp_region_held_drew (S := fun w' => Below gw wo w' ∧ ∀ j, j < i → ∀ x, ws.getD j 0 = x → w'.cell? ⟨gw, j, none⟩ = some (.int .u32 x)) (by kernel_rfl) ⟨HV.out.drew, fun j hj x hx => blk_at HB.out.drew j (by omega) (by omega) x hx⟩ (fun hHeld => ?_)
               replace HB := hide HB.out.drew
               refine take_e 97 (i := 0) (v := .int .i64 (i : Int)) rfl (by kernel_rfl) (Or.inl ⟨by kernel_rfl, fun w' hS => exec_move _ rfl _ rfl⟩) hHeld ?_
               try simp only [Act.put, s1_, s2_, s3_]
               refine take_e 98 (i := 1) (v := .int .i64 (i : Int)) rfl (by kernel_rfl) (Or.inl ⟨by kernel_rfl, fun w' hS => exec_move _ rfl _ rfl⟩) hHeld ?_
               try simp only [Act.put, s1_, s2_, s3_]
               refine take_e 99 (i := 2) (v := .int .i64 ((i : Int) - 16)) rfl (by kernel_rfl) (Or.inl ⟨by kernel_rfl, fun w' hS => exec_i64_sub _ _ _ rfl _ _ _ rfl rfl ((IntWalk.i64_in _ (by omega)).trans (by omega))⟩) hHeld ?_
               try simp only [Act.put, s1_, s2_, s3_]
               refine take_e 100 (i := 3) (v := .pointer (some ⟨gw, (i - 16), none⟩)) rfl (by kernel_rfl) (Or.inl ⟨by kernel_rfl, fun w' hS => exec_index_arr102 _ _ rfl gw 0 ((i : Int) - 16) (i - 16) ((i - 16)) rfl rfl (by omega) (by omega) (by omega)⟩) hHeld ?_
               try simp only [Act.put, s1_, s2_, s3_]
               refine take_e 101 (i := 4) (v := .int .u32 (X16)) rfl (by kernel_rfl) (Or.inl ⟨by kernel_rfl, fun w' hS => exec_load_u32 _ rfl gw _ rfl _ (hS.2 (i - 16) (by omega) X16 HX16.out)⟩) hHeld ?_
               try simp only [Act.put, s1_, s2_, s3_]
               refine take_e 102 (i := 5) (v := .int .u32 (X15)) rfl (by kernel_rfl) (Or.inl ⟨by kernel_rfl, fun w' hS => exec_move _ rfl _ rfl⟩) hHeld ?_
               try simp only [Act.put, s1_, s2_, s3_]
               refine take_e 104 (i := 7) (v := .int .u32 (X15)) rfl (by kernel_rfl) (Or.inl ⟨by kernel_rfl, fun w' hS => exec_move _ rfl _ rfl⟩) hHeld ?_
               try simp only [Act.put, s1_, s2_, s3_]
               refine take_e 107 (i := 10) (v := .int .u32 (X15)) rfl (by kernel_rfl) (Or.inl ⟨by kernel_rfl, fun w' hS => exec_move _ rfl _ rfl⟩) hHeld ?_
               try simp only [Act.put, s1_, s2_, s3_]
               refine take_e 108 (i := 11) (v := .int .u32 ((X15) / 8)) rfl (by kernel_rfl) (Or.inl ⟨by kernel_rfl, fun w' hS => exec_shr32_3 _ _ rfl _ rfl⟩) hHeld ?_
               try simp only [Act.put, s1_, s2_, s3_]
               refine take_e 111 (i := 14) (v := .int .i64 (i : Int)) rfl (by kernel_rfl) (Or.inl ⟨by kernel_rfl, fun w' hS => exec_move _ rfl _ rfl⟩) hHeld ?_
               try simp only [Act.put, s1_, s2_, s3_]
               refine take_e 112 (i := 15) (v := .int .i64 ((i : Int) - 7)) rfl (by kernel_rfl) (Or.inl ⟨by kernel_rfl, fun w' hS => exec_i64_sub _ _ _ rfl _ _ _ rfl rfl ((IntWalk.i64_in _ (by omega)).trans (by omega))⟩) hHeld ?_
               try simp only [Act.put, s1_, s2_, s3_]
               refine take_e 113 (i := 16) (v := .pointer (some ⟨gw, (i - 7), none⟩)) rfl (by kernel_rfl) (Or.inl ⟨by kernel_rfl, fun w' hS => exec_index_arr102 _ _ rfl gw 0 ((i : Int) - 7) (i - 7) ((i - 7)) rfl rfl (by omega) (by omega) (by omega)⟩) hHeld ?_
               try simp only [Act.put, s1_, s2_, s3_]
               refine take_e 114 (i := 17) (v := .int .u32 (X7)) rfl (by kernel_rfl) (Or.inl ⟨by kernel_rfl, fun w' hS => exec_load_u32 _ rfl gw _ rfl _ (hS.2 (i - 7) (by omega) X7 HX7.out)⟩) hHeld ?_
               try simp only [Act.put, s1_, s2_, s3_]
               refine take_e 116 (i := 19) (v := .int .u32 (X2)) rfl (by kernel_rfl) (Or.inl ⟨by kernel_rfl, fun w' hS => exec_move _ rfl _ rfl⟩) hHeld ?_
               try simp only [Act.put, s1_, s2_, s3_]
               refine take_e 118 (i := 21) (v := .int .u32 (X2)) rfl (by kernel_rfl) (Or.inl ⟨by kernel_rfl, fun w' hS => exec_move _ rfl _ rfl⟩) hHeld ?_
               try simp only [Act.put, s1_, s2_, s3_]
               refine take_e 121 (i := 24) (v := .int .u32 (X2)) rfl (by kernel_rfl) (Or.inl ⟨by kernel_rfl, fun w' hS => exec_move _ rfl _ rfl⟩) hHeld ?_
               try simp only [Act.put, s1_, s2_, s3_]
               refine take_e 122 (i := 25) (v := .int .u32 ((X2) / 1024)) rfl (by kernel_rfl) (Or.inl ⟨by kernel_rfl, fun w' hS => exec_shr32_10 _ _ rfl _ rfl⟩) hHeld ?_
               try simp only [Act.put, s1_, s2_, s3_]
               refine wpAnyH_ready (rs := [6]) (by kernel_rfl) (by simp) (AllReadyH.cons rfl (fun K hK => ?_) AllReadyH.nil)
               rw [if_pos (by kernel_rfl)]
               try go_simp
               refine (turn_7 X15 _).mono ?_
               rintro e w' ⟨rfl, rfl⟩
               refine hK.out _ _ hHeld (fun hHeld => ?_)
               clear hK K
               try simp only [Act.put, s1_, s2_, s3_]
               refine wpAnyH_ready (rs := [8]) (by kernel_rfl) (by simp) (AllReadyH.cons rfl (fun K hK => ?_) AllReadyH.nil)
               rw [if_pos (by kernel_rfl)]
               try go_simp
               refine (turn_18 X15 _).mono ?_
               rintro e w' ⟨rfl, rfl⟩
               refine hK.out _ _ hHeld (fun hHeld => ?_)
               clear hK K
               try simp only [Act.put, s1_, s2_, s3_]
               refine take_e 106 (i := 9) (v := .int .u32 (xor32 (rotF X15 7) (rotF X15 18))) rfl (by kernel_rfl) (Or.inl ⟨by kernel_rfl, fun w' hS => exec_xor32 _ _ _ rfl _ _ rfl rfl⟩) hHeld ?_
               try simp only [Act.put, s1_, s2_, s3_]
               refine take_e 109 (i := 12) (v := .int .u32 (xor32 (xor32 (rotF X15 7) (rotF X15 18)) ((X15) / 8))) rfl (by kernel_rfl) (Or.inl ⟨by kernel_rfl, fun w' hS => exec_xor32 _ _ _ rfl _ _ rfl rfl⟩) hHeld ?_
               try simp only [Act.put, s1_, s2_, s3_]
               refine take_e 110 (i := 13) (v := .int .u32 (add32 (X16) (xor32 (xor32 (rotF X15 7) (rotF X15 18)) ((X15) / 8)))) rfl (by kernel_rfl) (Or.inl ⟨by kernel_rfl, fun w' hS => exec_add32 _ _ _ rfl _ _ rfl rfl⟩) hHeld ?_
               try simp only [Act.put, s1_, s2_, s3_]
               refine take_e 115 (i := 18) (v := .int .u32 (add32 (add32 (X16) (xor32 (xor32 (rotF X15 7) (rotF X15 18)) ((X15) / 8))) (X7))) rfl (by kernel_rfl) (Or.inl ⟨by kernel_rfl, fun w' hS => exec_add32 _ _ _ rfl _ _ rfl rfl⟩) hHeld ?_
               try simp only [Act.put, s1_, s2_, s3_]
               refine wpAnyH_ready (rs := [20]) (by kernel_rfl) (by simp) (AllReadyH.cons rfl (fun K hK => ?_) AllReadyH.nil)
               rw [if_pos (by kernel_rfl)]
               try go_simp
               refine (turn_17 X2 _).mono ?_
               rintro e w' ⟨rfl, rfl⟩
               refine hK.out _ _ hHeld (fun hHeld => ?_)
               clear hK K
               try simp only [Act.put, s1_, s2_, s3_]
               refine wpAnyH_ready (rs := [22]) (by kernel_rfl) (by simp) (AllReadyH.cons rfl (fun K hK => ?_) AllReadyH.nil)
               rw [if_pos (by kernel_rfl)]
               try go_simp
               refine (turn_19 X2 _).mono ?_
               rintro e w' ⟨rfl, rfl⟩
               refine hK.out _ _ hHeld (fun hHeld => ?_)
               clear hK K
               try simp only [Act.put, s1_, s2_, s3_]
               refine take_e 120 (i := 23) (v := .int .u32 (xor32 (rotF X2 17) (rotF X2 19))) rfl (by kernel_rfl) (Or.inl ⟨by kernel_rfl, fun w' hS => exec_xor32 _ _ _ rfl _ _ rfl rfl⟩) hHeld ?_
               try simp only [Act.put, s1_, s2_, s3_]
               refine take_e 123 (i := 26) (v := .int .u32 (xor32 (xor32 (rotF X2 17) (rotF X2 19)) ((X2) / 1024))) rfl (by kernel_rfl) (Or.inl ⟨by kernel_rfl, fun w' hS => exec_xor32 _ _ _ rfl _ _ rfl rfl⟩) hHeld ?_
               try simp only [Act.put, s1_, s2_, s3_]
               refine take_e 124 (i := 27) (v := .int .u32 (add32 (add32 (add32 (X16) (xor32 (xor32 (rotF X15 7) (rotF X15 18)) ((X15) / 8))) (X7)) (xor32 (xor32 (rotF X2 17) (rotF X2 19)) ((X2) / 1024)))) rfl (by kernel_rfl) (Or.inl ⟨by kernel_rfl, fun w' hS => exec_add32 _ _ _ rfl _ _ rfl rfl⟩) hHeld ?_
               try simp only [Act.put, s1_, s2_, s3_]
               refine take_e 125 (i := 28) (v := .pointer (some ⟨gw, i, none⟩)) rfl (by kernel_rfl) (Or.inl ⟨by kernel_rfl, fun w' hS => exec_index_arr102 _ _ rfl gw 0 (i : Int) i (i) rfl rfl (by omega) (by omega) (by omega)⟩) hHeld ?_
               try simp only [Act.put, s1_, s2_, s3_]
               refine wpAnyH_ready (rs := [29]) (by kernel_rfl) (by simp) (AllReadyH.cons rfl (fun K hK => ?_) AllReadyH.nil)
               rw [if_pos (by kernel_rfl)]
               refine wp_u32_putD rfl _ _ rfl gw i 102 ws rfl HB.out (by have := HWL.out; omega) _ rfl ?_
               intro wp hbp hgp hsp
               have HX := hide (show _ ∧ ∀ j, j < i → ∀ x, ws.getD j 0 = x → wp.cell? ⟨gw, j, none⟩ = some (.int .u32 x) from ⟨hHeld.1.grown hgp (by have := hHeld.1.size; omega) (by intro k hk; simp at hk; omega), fun j hj x hx => blk_at hbp j (by omega) (by rw [List.length_set]; exact HWL.out) x (by rw [getD_set_ne ws (by omega)]; exact hx)⟩)
               replace HB := hide hbp
               clear hbp hgp hsp
               refine hK.out _ _ HX.out (fun hHeld => ?_)
               clear HX hK K
               try simp only [Act.put, s1_, s2_, s3_]
               refine wpAnyH_done (by kernel_rfl) ?_ _
               replace HV := hide hHeld.1
               clear hHeld
               go_wp2_with fail
               go_roundw
               case measure => simp [intOf]; omega
               case rel => exact ⟨i + 1, by omega, by omega, by go_num, by rw [HSC.out, HZW.out]; exact HB.out, HV.out⟩
            · have e64 : i = 64 := by omega
              subst e64
              have HMQ := hide (HMXD.out H bt)
              obtain ⟨W, HWW⟩ : ∃ x, Hid (schedN bt 64 = x) := ⟨_, hide rfl⟩
              rw [HWW.out] at hblk HMQ HWL
              have BW := hide hblk
              replace HV := hide hbel
              clear hblk hbel HB hi64
              rw [show (((64 : Nat) : Int)) = 64 from rfl]
              obtain ⟨H0, HH0⟩ : ∃ x, Hid (H.getD 0 0 = x) := ⟨_, hide rfl⟩
              obtain ⟨H1, HH1⟩ : ∃ x, Hid (H.getD 1 0 = x) := ⟨_, hide rfl⟩
              obtain ⟨H2, HH2⟩ : ∃ x, Hid (H.getD 2 0 = x) := ⟨_, hide rfl⟩
              obtain ⟨H3, HH3⟩ : ∃ x, Hid (H.getD 3 0 = x) := ⟨_, hide rfl⟩
              obtain ⟨H4, HH4⟩ : ∃ x, Hid (H.getD 4 0 = x) := ⟨_, hide rfl⟩
              obtain ⟨H5, HH5⟩ : ∃ x, Hid (H.getD 5 0 = x) := ⟨_, hide rfl⟩
              obtain ⟨H6, HH6⟩ : ∃ x, Hid (H.getD 6 0 = x) := ⟨_, hide rfl⟩
              obtain ⟨H7, HH7⟩ : ∃ x, Hid (H.getD 7 0 = x) := ⟨_, hide rfl⟩
              as_aux_lemma =>
               go_upto_region 21 with fail
               refine wp_region_held_drew (S := fun w' => Below gw wo w' ∧ Blk w' gh 104 (u32s H)) (by kernel_rfl) ⟨HV.out.drew, (HHB.out.below HV.out (by omega)).drew⟩ (fun hHeld => ?_)
               replace BW := hide BW.out.drew
               refine take_e 126 (i := 0) (v := .pointer (some ⟨gh, 0, none⟩)) rfl (by kernel_rfl) (Or.inl ⟨by kernel_rfl, fun w' hS => exec_index_arr104 _ _ rfl gh 0 0 0 (0) rfl rfl (by omega) (by omega) (by omega)⟩) hHeld ?_
               try simp only [Act.put, s1_, s2_, s3_]
               refine take_e 127 (i := 1) (v := .int .u32 (H0)) rfl (by kernel_rfl) (Or.inl ⟨by kernel_rfl, fun w' hS => exec_load_u32 _ rfl gh _ rfl _ (blk_at8 hS.2 0 (by omega) HHL.out H0 HH0.out)⟩) hHeld ?_
               try simp only [Act.put, s1_, s2_, s3_]
               refine take_e 128 (i := 2) (v := .pointer (some ⟨gh, 1, none⟩)) rfl (by kernel_rfl) (Or.inl ⟨by kernel_rfl, fun w' hS => exec_index_arr104 _ _ rfl gh 0 1 1 (1) rfl rfl (by omega) (by omega) (by omega)⟩) hHeld ?_
               try simp only [Act.put, s1_, s2_, s3_]
               refine take_e 129 (i := 3) (v := .int .u32 (H1)) rfl (by kernel_rfl) (Or.inl ⟨by kernel_rfl, fun w' hS => exec_load_u32 _ rfl gh _ rfl _ (blk_at8 hS.2 1 (by omega) HHL.out H1 HH1.out)⟩) hHeld ?_
               try simp only [Act.put, s1_, s2_, s3_]
               refine take_e 130 (i := 4) (v := .pointer (some ⟨gh, 2, none⟩)) rfl (by kernel_rfl) (Or.inl ⟨by kernel_rfl, fun w' hS => exec_index_arr104 _ _ rfl gh 0 2 2 (2) rfl rfl (by omega) (by omega) (by omega)⟩) hHeld ?_
               try simp only [Act.put, s1_, s2_, s3_]
               refine take_e 131 (i := 5) (v := .int .u32 (H2)) rfl (by kernel_rfl) (Or.inl ⟨by kernel_rfl, fun w' hS => exec_load_u32 _ rfl gh _ rfl _ (blk_at8 hS.2 2 (by omega) HHL.out H2 HH2.out)⟩) hHeld ?_
               try simp only [Act.put, s1_, s2_, s3_]
               refine take_e 132 (i := 6) (v := .pointer (some ⟨gh, 3, none⟩)) rfl (by kernel_rfl) (Or.inl ⟨by kernel_rfl, fun w' hS => exec_index_arr104 _ _ rfl gh 0 3 3 (3) rfl rfl (by omega) (by omega) (by omega)⟩) hHeld ?_
               try simp only [Act.put, s1_, s2_, s3_]
               refine take_e 133 (i := 7) (v := .int .u32 (H3)) rfl (by kernel_rfl) (Or.inl ⟨by kernel_rfl, fun w' hS => exec_load_u32 _ rfl gh _ rfl _ (blk_at8 hS.2 3 (by omega) HHL.out H3 HH3.out)⟩) hHeld ?_
               try simp only [Act.put, s1_, s2_, s3_]
               refine take_e 134 (i := 8) (v := .pointer (some ⟨gh, 4, none⟩)) rfl (by kernel_rfl) (Or.inl ⟨by kernel_rfl, fun w' hS => exec_index_arr104 _ _ rfl gh 0 4 4 (4) rfl rfl (by omega) (by omega) (by omega)⟩) hHeld ?_
               try simp only [Act.put, s1_, s2_, s3_]
               refine take_e 135 (i := 9) (v := .int .u32 (H4)) rfl (by kernel_rfl) (Or.inl ⟨by kernel_rfl, fun w' hS => exec_load_u32 _ rfl gh _ rfl _ (blk_at8 hS.2 4 (by omega) HHL.out H4 HH4.out)⟩) hHeld ?_
               try simp only [Act.put, s1_, s2_, s3_]
               refine take_e 136 (i := 10) (v := .pointer (some ⟨gh, 5, none⟩)) rfl (by kernel_rfl) (Or.inl ⟨by kernel_rfl, fun w' hS => exec_index_arr104 _ _ rfl gh 0 5 5 (5) rfl rfl (by omega) (by omega) (by omega)⟩) hHeld ?_
               try simp only [Act.put, s1_, s2_, s3_]
               refine take_e 137 (i := 11) (v := .int .u32 (H5)) rfl (by kernel_rfl) (Or.inl ⟨by kernel_rfl, fun w' hS => exec_load_u32 _ rfl gh _ rfl _ (blk_at8 hS.2 5 (by omega) HHL.out H5 HH5.out)⟩) hHeld ?_
               try simp only [Act.put, s1_, s2_, s3_]
               refine take_e 138 (i := 12) (v := .pointer (some ⟨gh, 6, none⟩)) rfl (by kernel_rfl) (Or.inl ⟨by kernel_rfl, fun w' hS => exec_index_arr104 _ _ rfl gh 0 6 6 (6) rfl rfl (by omega) (by omega) (by omega)⟩) hHeld ?_
               try simp only [Act.put, s1_, s2_, s3_]
               refine take_e 139 (i := 13) (v := .int .u32 (H6)) rfl (by kernel_rfl) (Or.inl ⟨by kernel_rfl, fun w' hS => exec_load_u32 _ rfl gh _ rfl _ (blk_at8 hS.2 6 (by omega) HHL.out H6 HH6.out)⟩) hHeld ?_
               try simp only [Act.put, s1_, s2_, s3_]
               refine take_e 140 (i := 14) (v := .pointer (some ⟨gh, 7, none⟩)) rfl (by kernel_rfl) (Or.inl ⟨by kernel_rfl, fun w' hS => exec_index_arr104 _ _ rfl gh 0 7 7 (7) rfl rfl (by omega) (by omega) (by omega)⟩) hHeld ?_
               try simp only [Act.put, s1_, s2_, s3_]
               refine take_e 141 (i := 15) (v := .int .u32 (H7)) rfl (by kernel_rfl) (Or.inl ⟨by kernel_rfl, fun w' hS => exec_load_u32 _ rfl gh _ rfl _ (blk_at8 hS.2 7 (by omega) HHL.out H7 HH7.out)⟩) hHeld ?_
               try simp only [Act.put, s1_, s2_, s3_]
               refine take_e 13 (i := 16) (v := .int .u32 (H0)) rfl (by kernel_rfl) (Or.inl ⟨by kernel_rfl, fun w' hS => exec_assign _ rfl _ rfl⟩) hHeld ?_
               try simp only [Act.put, s1_, s2_, s3_]
               refine take_e 14 (i := 17) (v := .int .u32 (H1)) rfl (by kernel_rfl) (Or.inl ⟨by kernel_rfl, fun w' hS => exec_assign _ rfl _ rfl⟩) hHeld ?_
               try simp only [Act.put, s1_, s2_, s3_]
               refine take_e 15 (i := 18) (v := .int .u32 (H2)) rfl (by kernel_rfl) (Or.inl ⟨by kernel_rfl, fun w' hS => exec_assign _ rfl _ rfl⟩) hHeld ?_
               try simp only [Act.put, s1_, s2_, s3_]
               refine take_e 16 (i := 19) (v := .int .u32 (H3)) rfl (by kernel_rfl) (Or.inl ⟨by kernel_rfl, fun w' hS => exec_assign _ rfl _ rfl⟩) hHeld ?_
               try simp only [Act.put, s1_, s2_, s3_]
               refine take_e 17 (i := 20) (v := .int .u32 (H4)) rfl (by kernel_rfl) (Or.inl ⟨by kernel_rfl, fun w' hS => exec_assign _ rfl _ rfl⟩) hHeld ?_
               try simp only [Act.put, s1_, s2_, s3_]
               refine take_e 18 (i := 21) (v := .int .u32 (H5)) rfl (by kernel_rfl) (Or.inl ⟨by kernel_rfl, fun w' hS => exec_assign _ rfl _ rfl⟩) hHeld ?_
               try simp only [Act.put, s1_, s2_, s3_]
               refine take_e 19 (i := 22) (v := .int .u32 (H6)) rfl (by kernel_rfl) (Or.inl ⟨by kernel_rfl, fun w' hS => exec_assign _ rfl _ rfl⟩) hHeld ?_
               try simp only [Act.put, s1_, s2_, s3_]
               refine take_e 20 (i := 23) (v := .int .u32 (H7)) rfl (by kernel_rfl) (Or.inl ⟨by kernel_rfl, fun w' hS => exec_assign _ rfl _ rfl⟩) hHeld ?_
               try simp only [Act.put, s1_, s2_, s3_]
               refine wpAnyH_done (by kernel_rfl) ?_ _
               replace HV := hide hHeld.1
               clear hHeld
               go_wp2_with fail
               go_loopw [13, 14, 15, 16, 17, 18, 19, 20, 21] (fun v13 v14 v15 v16 v17 v18 v19 v20 v21 wq => ∃ i : Nat, i ≤ 64 ∧ v21 = .int .i64 i ∧ v13 = .int .u32 ((vN H KT W i).getD 0 0) ∧ v14 = .int .u32 ((vN H KT W i).getD 1 0) ∧ v15 = .int .u32 ((vN H KT W i).getD 2 0) ∧ v16 = .int .u32 ((vN H KT W i).getD 3 0) ∧ v17 = .int .u32 ((vN H KT W i).getD 4 0) ∧ v18 = .int .u32 ((vN H KT W i).getD 5 0) ∧ v19 = .int .u32 ((vN H KT W i).getD 6 0) ∧ v20 = .int .u32 ((vN H KT W i).getD 7 0) ∧ Blk wq gw 102 (u32s W) ∧ Below gw wo wq) (fun _ _ _ _ _ _ _ _ v21 _ => 64 - (intOf v21).toNat)
               case atStart => exact ⟨0, by omega, rfl, by rw [← HH0.out]; rfl, by rw [← HH1.out]; rfl, by rw [← HH2.out]; rfl, by rw [← HH3.out]; rfl, by rw [← HH4.out]; rfl, by rw [← HH5.out]; rfl, by rw [← HH6.out]; rfl, by rw [← HH7.out]; rfl, BW.out, HV.out⟩
               case round =>
                obtain ⟨i, hi, rfl, rfl, rfl, rfl, rfl, rfl, rfl, rfl, rfl, hblk, hbel⟩ := hrel
                obtain ⟨V0, HV0⟩ : ∃ x, Hid ((vN H KT W i).getD 0 0 = x) := ⟨_, hide rfl⟩
                obtain ⟨V1, HV1⟩ : ∃ x, Hid ((vN H KT W i).getD 1 0 = x) := ⟨_, hide rfl⟩
                obtain ⟨V2, HV2⟩ : ∃ x, Hid ((vN H KT W i).getD 2 0 = x) := ⟨_, hide rfl⟩
                obtain ⟨V3, HV3⟩ : ∃ x, Hid ((vN H KT W i).getD 3 0 = x) := ⟨_, hide rfl⟩
                obtain ⟨V4, HV4⟩ : ∃ x, Hid ((vN H KT W i).getD 4 0 = x) := ⟨_, hide rfl⟩
                obtain ⟨V5, HV5⟩ : ∃ x, Hid ((vN H KT W i).getD 5 0 = x) := ⟨_, hide rfl⟩
                obtain ⟨V6, HV6⟩ : ∃ x, Hid ((vN H KT W i).getD 6 0 = x) := ⟨_, hide rfl⟩
                obtain ⟨V7, HV7⟩ : ∃ x, Hid ((vN H KT W i).getD 7 0 = x) := ⟨_, hide rfl⟩
                rw [HV0.out, HV1.out, HV2.out, HV3.out, HV4.out, HV5.out, HV6.out, HV7.out]
                by_cases hi64 : i < 64
                · have HSC := hide (HVN.out H W i)
                  obtain ⟨vs, HVS⟩ : ∃ x, Hid (vN H KT W i = x) := ⟨_, hide rfl⟩
                  rw [HVS.out] at HSC HV0 HV1 HV2 HV3 HV4 HV5 HV6 HV7
                  have HB := hide hblk
                  replace HV := hide hbel
                  clear hblk hbel BW
                  have HKI := hide (fun (w' : World) (hw : Below gw wo w') => show w'.cell? ⟨gk, i, none⟩ = some (.int .u32 (KT.getD i 0)) from blk_u32 (HK.out.below hw (by omega)) i (by have := HKL.out; omega))
                  obtain ⟨WI, HWI0⟩ : ∃ x, Hid (W.getD i 0 = x) := ⟨_, hide rfl⟩
                  obtain ⟨KI, HKI2⟩ : ∃ x, Hid (KT.getD i 0 = x) := ⟨_, hide rfl⟩
                  rw [HWI0.out] at HSC
                  rw [HKI2.out] at HKI HSC
                  as_aux_lemma =>
                   obtain ⟨TT, HTT⟩ : ∃ x, Hid (add32 (add32 (add32 (add32 (V7) (xor32 (xor32 (rotF V4 6) (rotF V4 11)) (rotF V4 25))) (xor32 (and32 (V4) (V5)) (and32 (not32 (V4)) (V6)))) (KI)) (WI) = x) := ⟨_, hide rfl⟩
                   have i1 : (i : Int) < 64 := by omega
                   go_upto_region 25 with fail
                   refine wp_region_held_drew (S := fun w' => Below gw wo w' ∧ Blk w' gw 102 (u32s W)) (by kernel_rfl) ⟨HV.out.drew, HB.out.drew⟩ (fun hHeld => ?_)
                   refine take_e 146 (i := 0) (v := .int .u32 (V7)) rfl (by kernel_rfl) (Or.inl ⟨by kernel_rfl, fun w' hS => exec_move _ rfl _ rfl⟩) hHeld ?_
                   try simp only [Act.put, s1_, s2_, s3_]
                   refine take_e 147 (i := 1) (v := .int .u32 (V4)) rfl (by kernel_rfl) (Or.inl ⟨by kernel_rfl, fun w' hS => exec_move _ rfl _ rfl⟩) hHeld ?_
                   try simp only [Act.put, s1_, s2_, s3_]
                   refine take_e 149 (i := 3) (v := .int .u32 (V4)) rfl (by kernel_rfl) (Or.inl ⟨by kernel_rfl, fun w' hS => exec_move _ rfl _ rfl⟩) hHeld ?_
                   try simp only [Act.put, s1_, s2_, s3_]
                   refine take_e 152 (i := 6) (v := .int .u32 (V4)) rfl (by kernel_rfl) (Or.inl ⟨by kernel_rfl, fun w' hS => exec_move _ rfl _ rfl⟩) hHeld ?_
                   try simp only [Act.put, s1_, s2_, s3_]
                   refine take_e 156 (i := 10) (v := .int .u32 (V4)) rfl (by kernel_rfl) (Or.inl ⟨by kernel_rfl, fun w' hS => exec_move _ rfl _ rfl⟩) hHeld ?_
                   try simp only [Act.put, s1_, s2_, s3_]
                   refine take_e 157 (i := 11) (v := .int .u32 (V5)) rfl (by kernel_rfl) (Or.inl ⟨by kernel_rfl, fun w' hS => exec_move _ rfl _ rfl⟩) hHeld ?_
                   try simp only [Act.put, s1_, s2_, s3_]
                   refine take_e 158 (i := 12) (v := .int .u32 (and32 (V4) (V5))) rfl (by kernel_rfl) (Or.inl ⟨by kernel_rfl, fun w' hS => exec_and32 _ _ _ rfl _ _ rfl rfl⟩) hHeld ?_
                   try simp only [Act.put, s1_, s2_, s3_]
                   refine take_e 159 (i := 13) (v := .int .u32 (V4)) rfl (by kernel_rfl) (Or.inl ⟨by kernel_rfl, fun w' hS => exec_move _ rfl _ rfl⟩) hHeld ?_
                   try simp only [Act.put, s1_, s2_, s3_]
                   refine take_e 160 (i := 14) (v := .int .u32 (not32 (V4))) rfl (by kernel_rfl) (Or.inl ⟨by kernel_rfl, fun w' hS => exec_not32 _ rfl _ rfl⟩) hHeld ?_
                   try simp only [Act.put, s1_, s2_, s3_]
                   refine take_e 161 (i := 15) (v := .int .u32 (V6)) rfl (by kernel_rfl) (Or.inl ⟨by kernel_rfl, fun w' hS => exec_move _ rfl _ rfl⟩) hHeld ?_
                   try simp only [Act.put, s1_, s2_, s3_]
                   refine take_e 162 (i := 16) (v := .int .u32 (and32 (not32 (V4)) (V6))) rfl (by kernel_rfl) (Or.inl ⟨by kernel_rfl, fun w' hS => exec_and32 _ _ _ rfl _ _ rfl rfl⟩) hHeld ?_
                   try simp only [Act.put, s1_, s2_, s3_]
                   refine take_e 163 (i := 17) (v := .int .u32 (xor32 (and32 (V4) (V5)) (and32 (not32 (V4)) (V6)))) rfl (by kernel_rfl) (Or.inl ⟨by kernel_rfl, fun w' hS => exec_xor32 _ _ _ rfl _ _ rfl rfl⟩) hHeld ?_
                   try simp only [Act.put, s1_, s2_, s3_]
                   refine take_e 165 (i := 19) (v := .int .i64 (i : Int)) rfl (by kernel_rfl) (Or.inl ⟨by kernel_rfl, fun w' hS => exec_move _ rfl _ rfl⟩) hHeld ?_
                   try simp only [Act.put, s1_, s2_, s3_]
                   refine take_e 166 (i := 20) (v := .pointer (some ⟨gk, i, none⟩)) rfl (by kernel_rfl) (Or.inl ⟨by kernel_rfl, fun w' hS => exec_index_arr102 _ _ rfl gk 0 (i : Int) i (i) rfl rfl (by omega) (by omega) (by omega)⟩) hHeld ?_
                   try simp only [Act.put, s1_, s2_, s3_]
                   refine take_e 167 (i := 21) (v := .int .u32 (KI)) rfl (by kernel_rfl) (Or.inl ⟨by kernel_rfl, fun w' hS => exec_load_u32 _ rfl gk _ rfl _ (HKI.out w' hS.1)⟩) hHeld ?_
                   try simp only [Act.put, s1_, s2_, s3_]
                   refine take_e 169 (i := 23) (v := .int .i64 (i : Int)) rfl (by kernel_rfl) (Or.inl ⟨by kernel_rfl, fun w' hS => exec_move _ rfl _ rfl⟩) hHeld ?_
                   try simp only [Act.put, s1_, s2_, s3_]
                   refine take_e 170 (i := 24) (v := .pointer (some ⟨gw, i, none⟩)) rfl (by kernel_rfl) (Or.inl ⟨by kernel_rfl, fun w' hS => exec_index_arr102 _ _ rfl gw 0 (i : Int) i (i) rfl rfl (by omega) (by omega) (by omega)⟩) hHeld ?_
                   try simp only [Act.put, s1_, s2_, s3_]
                   refine take_e 171 (i := 25) (v := .int .u32 (WI)) rfl (by kernel_rfl) (Or.inl ⟨by kernel_rfl, fun w' hS => exec_load_u32 _ rfl gw _ rfl _ (blk_at hS.2 i (by omega) HWL.out WI HWI0.out)⟩) hHeld ?_
                   try simp only [Act.put, s1_, s2_, s3_]
                   refine wpAnyH_ready (rs := [2]) (by kernel_rfl) (by simp) (AllReadyH.cons rfl (fun K hK => ?_) AllReadyH.nil)
                   rw [if_pos (by kernel_rfl)]
                   try go_simp
                   refine (turn_6 V4 _).mono ?_
                   rintro e w' ⟨rfl, rfl⟩
                   refine hK.out _ _ hHeld (fun hHeld => ?_)
                   clear hK K
                   try simp only [Act.put, s1_, s2_, s3_]
                   refine wpAnyH_ready (rs := [4]) (by kernel_rfl) (by simp) (AllReadyH.cons rfl (fun K hK => ?_) AllReadyH.nil)
                   rw [if_pos (by kernel_rfl)]
                   try go_simp
                   refine (turn_11 V4 _).mono ?_
                   rintro e w' ⟨rfl, rfl⟩
                   refine hK.out _ _ hHeld (fun hHeld => ?_)
                   clear hK K
                   try simp only [Act.put, s1_, s2_, s3_]
                   refine take_e 151 (i := 5) (v := .int .u32 (xor32 (rotF V4 6) (rotF V4 11))) rfl (by kernel_rfl) (Or.inl ⟨by kernel_rfl, fun w' hS => exec_xor32 _ _ _ rfl _ _ rfl rfl⟩) hHeld ?_
                   try simp only [Act.put, s1_, s2_, s3_]
                   refine wpAnyH_ready (rs := [7]) (by kernel_rfl) (by simp) (AllReadyH.cons rfl (fun K hK => ?_) AllReadyH.nil)
                   rw [if_pos (by kernel_rfl)]
                   try go_simp
                   refine (turn_25 V4 _).mono ?_
                   rintro e w' ⟨rfl, rfl⟩
                   refine hK.out _ _ hHeld (fun hHeld => ?_)
                   clear hK K
                   try simp only [Act.put, s1_, s2_, s3_]
                   refine take_e 154 (i := 8) (v := .int .u32 (xor32 (xor32 (rotF V4 6) (rotF V4 11)) (rotF V4 25))) rfl (by kernel_rfl) (Or.inl ⟨by kernel_rfl, fun w' hS => exec_xor32 _ _ _ rfl _ _ rfl rfl⟩) hHeld ?_
                   try simp only [Act.put, s1_, s2_, s3_]
                   refine take_e 155 (i := 9) (v := .int .u32 (add32 (V7) (xor32 (xor32 (rotF V4 6) (rotF V4 11)) (rotF V4 25)))) rfl (by kernel_rfl) (Or.inl ⟨by kernel_rfl, fun w' hS => exec_add32 _ _ _ rfl _ _ rfl rfl⟩) hHeld ?_
                   try simp only [Act.put, s1_, s2_, s3_]
                   refine take_e 164 (i := 18) (v := .int .u32 (add32 (add32 (V7) (xor32 (xor32 (rotF V4 6) (rotF V4 11)) (rotF V4 25))) (xor32 (and32 (V4) (V5)) (and32 (not32 (V4)) (V6))))) rfl (by kernel_rfl) (Or.inl ⟨by kernel_rfl, fun w' hS => exec_add32 _ _ _ rfl _ _ rfl rfl⟩) hHeld ?_
                   try simp only [Act.put, s1_, s2_, s3_]
                   refine take_e 168 (i := 22) (v := .int .u32 (add32 (add32 (add32 (V7) (xor32 (xor32 (rotF V4 6) (rotF V4 11)) (rotF V4 25))) (xor32 (and32 (V4) (V5)) (and32 (not32 (V4)) (V6)))) (KI))) rfl (by kernel_rfl) (Or.inl ⟨by kernel_rfl, fun w' hS => exec_add32 _ _ _ rfl _ _ rfl rfl⟩) hHeld ?_
                   try simp only [Act.put, s1_, s2_, s3_]
                   refine take_e 172 (i := 26) (v := .int .u32 (add32 (add32 (add32 (add32 (V7) (xor32 (xor32 (rotF V4 6) (rotF V4 11)) (rotF V4 25))) (xor32 (and32 (V4) (V5)) (and32 (not32 (V4)) (V6)))) (KI)) (WI))) rfl (by kernel_rfl) (Or.inl ⟨by kernel_rfl, fun w' hS => exec_add32 _ _ _ rfl _ _ rfl rfl⟩) hHeld ?_
                   try simp only [Act.put, s1_, s2_, s3_]
                   refine take_e 22 (i := 27) (v := .int .u32 (add32 (add32 (add32 (add32 (V7) (xor32 (xor32 (rotF V4 6) (rotF V4 11)) (rotF V4 25))) (xor32 (and32 (V4) (V5)) (and32 (not32 (V4)) (V6)))) (KI)) (WI))) rfl (by kernel_rfl) (Or.inl ⟨by kernel_rfl, fun w' hS => exec_assign _ rfl _ rfl⟩) hHeld ?_
                   try simp only [Act.put, s1_, s2_, s3_]
                   refine wpAnyH_done (by kernel_rfl) ?_ _
                   replace HB := hide hHeld.2
                   replace HV := hide hHeld.1
                   clear hHeld
                   rw [HTT.out]
                   go_wp2_with fail
                   refine (turn_2 V0 _).mono ?_
                   rintro e w' ⟨rfl, rfl⟩
                   go_wp2_with fail
                   refine (turn_13 V0 _).mono ?_
                   rintro e w' ⟨rfl, rfl⟩
                   go_wp2_with fail
                   refine (turn_22 V0 _).mono ?_
                   rintro e w' ⟨rfl, rfl⟩
                   go_upto_region 27 with fail
                   obtain ⟨UU, HUU⟩ : ∃ x, Hid ((bits .xor .u32 (bits .xor .u32 (rotF V0 2) (rotF V0 13)) (rotF V0 22) + bits .xor .u32 (bits .xor .u32 (bits .and .u32 V0 V1) (bits .and .u32 V0 V2)) (bits .and .u32 V1 V2)) % 4294967296 = x) := ⟨_, hide rfl⟩
                   rw [HUU.out]
                   have HEU := hide (show add32 (aSig V0) (majF V0 V1 V2) = UU from (ha1 _ _).symm.trans HUU.out)
                   have HZ := hide (show vN H KT W (i + 1) = [add32 TT UU, V0, V1, V2, add32 V3 TT, V4, V5, V6] by
                    rw [HSC.out]
                    unfold roundF tF
                    rw [HV0.out, HV1.out, HV2.out, HV3.out, HV4.out, HV5.out, HV6.out, HV7.out, show add32 (add32 (add32 (add32 V7 (eSig V4)) (chF V4 V5 V6)) KI) WI = TT from HTT.out, add32_assoc TT (aSig V0) (majF V0 V1 V2), HEU.out])
                   go_wp2_with fail
                   go_roundw
                   case measure => simp [intOf]; omega
                   case rel => exact ⟨i + 1, by omega, by go_num, by rw [HZ.out]; exact congrArg (Value.int .u32) (ha1 _ _), by rw [HZ.out]; rfl, by rw [HZ.out]; rfl, by rw [HZ.out]; rfl, by rw [HZ.out]; exact congrArg (Value.int .u32) (ha1 _ _), by rw [HZ.out]; rfl, by rw [HZ.out]; rfl, by rw [HZ.out]; rfl, HB.out, HV.out⟩
                · have e64 : i = 64 := by omega
                  subst e64
                  obtain ⟨VF, HVF⟩ : ∃ x, Hid (vN H KT W 64 = x) := ⟨_, hide rfl⟩
                  rw [HVF.out] at HMQ HV0 HV1 HV2 HV3 HV4 HV5 HV6 HV7
                  replace HV := hide hbel
                  replace HW := hide (HW.out.trans (HV.out.mono (by have := HW.out.size; omega)))
                  replace HF := hide (HF.out.keptB (by rw [hgw]; exact HV.out))
                  replace HK := hide (HK.out.below HV.out hgw2)
                  replace HR := hide (HR.out.below HV.out hgw3)
                  have HH := hide (HHB.out.below HV.out hgw1)
                  clear hblk hbel BW HV HHB
                  rw [show (((64 : Nat) : Int)) = 64 from rfl]
                  as_aux_lemma =>
                   obtain ⟨L0, HL0⟩ : ∃ x, Hid (H = x) := ⟨_, hide rfl⟩
                   have HLL0 := hide (show L0.length = 8 by rw [← HL0.out]; exact HHL.out)
                   rw [HL0.out] at HH HMQ
                   obtain ⟨A0, HA0⟩ : ∃ x, Hid (L0.getD 0 0 = x) := ⟨_, hide rfl⟩
                   obtain ⟨L1, HS0⟩ : ∃ x, Hid (x = L0.set 0 (add32 A0 V0)) := ⟨_, hide rfl⟩
                   have HLL1 := hide (show L1.length = 8 by rw [HS0.out, List.length_set]; exact HLL0.out)
                   have ca := blk_at8 HH.out 0 (by omega) HLL0.out A0 HA0.out
                   go_upto_region 29 with (refine wpList_u32_put rfl _ _ rfl gh 0 104 L0 rfl HH.out (by rw [HLL0.out]; omega) (add32 A0 V0) (by exact congrArg (Value.int .u32) (by first | rfl | exact ha1 _ _)) ?_; intro wz hbz hgz hsz; rw [← HS0.out] at hbz; replace HH := hide hbz; replace HF := hide (HF.out.kept hgz); replace HK := hide (HK.out.grown hgz (by intro h; injection h with h; omega)); replace HR := hide (HR.out.grown hgz (by intro h; injection h with h; omega)); replace HW := hide (HW.out.grown hgz HW.out.size (by intro k hk; simp at hk; omega)); clear hbz hgz hsz ca)
                   obtain ⟨A1, HA1⟩ : ∃ x, Hid (L1.getD 1 0 = x) := ⟨_, hide rfl⟩
                   obtain ⟨L2, HS1⟩ : ∃ x, Hid (x = L1.set 1 (add32 A1 V1)) := ⟨_, hide rfl⟩
                   have HLL2 := hide (show L2.length = 8 by rw [HS1.out, List.length_set]; exact HLL1.out)
                   have ca := blk_at8 HH.out 1 (by omega) HLL1.out A1 HA1.out
                   go_upto_region 30 with (refine wpList_u32_put rfl _ _ rfl gh 1 104 L1 rfl HH.out (by rw [HLL1.out]; omega) (add32 A1 V1) (by exact congrArg (Value.int .u32) (by first | rfl | exact ha1 _ _)) ?_; intro wz hbz hgz hsz; rw [← HS1.out] at hbz; replace HH := hide hbz; replace HF := hide (HF.out.kept hgz); replace HK := hide (HK.out.grown hgz (by intro h; injection h with h; omega)); replace HR := hide (HR.out.grown hgz (by intro h; injection h with h; omega)); replace HW := hide (HW.out.grown hgz HW.out.size (by intro k hk; simp at hk; omega)); clear hbz hgz hsz ca)
                   obtain ⟨A2, HA2⟩ : ∃ x, Hid (L2.getD 2 0 = x) := ⟨_, hide rfl⟩
                   obtain ⟨L3, HS2⟩ : ∃ x, Hid (x = L2.set 2 (add32 A2 V2)) := ⟨_, hide rfl⟩
                   have HLL3 := hide (show L3.length = 8 by rw [HS2.out, List.length_set]; exact HLL2.out)
                   have ca := blk_at8 HH.out 2 (by omega) HLL2.out A2 HA2.out
                   go_upto_region 31 with (refine wpList_u32_put rfl _ _ rfl gh 2 104 L2 rfl HH.out (by rw [HLL2.out]; omega) (add32 A2 V2) (by exact congrArg (Value.int .u32) (by first | rfl | exact ha1 _ _)) ?_; intro wz hbz hgz hsz; rw [← HS2.out] at hbz; replace HH := hide hbz; replace HF := hide (HF.out.kept hgz); replace HK := hide (HK.out.grown hgz (by intro h; injection h with h; omega)); replace HR := hide (HR.out.grown hgz (by intro h; injection h with h; omega)); replace HW := hide (HW.out.grown hgz HW.out.size (by intro k hk; simp at hk; omega)); clear hbz hgz hsz ca)
                   obtain ⟨A3, HA3⟩ : ∃ x, Hid (L3.getD 3 0 = x) := ⟨_, hide rfl⟩
                   obtain ⟨L4, HS3⟩ : ∃ x, Hid (x = L3.set 3 (add32 A3 V3)) := ⟨_, hide rfl⟩
                   have HLL4 := hide (show L4.length = 8 by rw [HS3.out, List.length_set]; exact HLL3.out)
                   have ca := blk_at8 HH.out 3 (by omega) HLL3.out A3 HA3.out
                   go_upto_region 32 with (refine wpList_u32_put rfl _ _ rfl gh 3 104 L3 rfl HH.out (by rw [HLL3.out]; omega) (add32 A3 V3) (by exact congrArg (Value.int .u32) (by first | rfl | exact ha1 _ _)) ?_; intro wz hbz hgz hsz; rw [← HS3.out] at hbz; replace HH := hide hbz; replace HF := hide (HF.out.kept hgz); replace HK := hide (HK.out.grown hgz (by intro h; injection h with h; omega)); replace HR := hide (HR.out.grown hgz (by intro h; injection h with h; omega)); replace HW := hide (HW.out.grown hgz HW.out.size (by intro k hk; simp at hk; omega)); clear hbz hgz hsz ca)
                   obtain ⟨A4, HA4⟩ : ∃ x, Hid (L4.getD 4 0 = x) := ⟨_, hide rfl⟩
                   obtain ⟨L5, HS4⟩ : ∃ x, Hid (x = L4.set 4 (add32 A4 V4)) := ⟨_, hide rfl⟩
                   have HLL5 := hide (show L5.length = 8 by rw [HS4.out, List.length_set]; exact HLL4.out)
                   have ca := blk_at8 HH.out 4 (by omega) HLL4.out A4 HA4.out
                   go_upto_region 33 with (refine wpList_u32_put rfl _ _ rfl gh 4 104 L4 rfl HH.out (by rw [HLL4.out]; omega) (add32 A4 V4) (by exact congrArg (Value.int .u32) (by first | rfl | exact ha1 _ _)) ?_; intro wz hbz hgz hsz; rw [← HS4.out] at hbz; replace HH := hide hbz; replace HF := hide (HF.out.kept hgz); replace HK := hide (HK.out.grown hgz (by intro h; injection h with h; omega)); replace HR := hide (HR.out.grown hgz (by intro h; injection h with h; omega)); replace HW := hide (HW.out.grown hgz HW.out.size (by intro k hk; simp at hk; omega)); clear hbz hgz hsz ca)
                   obtain ⟨A5, HA5⟩ : ∃ x, Hid (L5.getD 5 0 = x) := ⟨_, hide rfl⟩
                   obtain ⟨L6, HS5⟩ : ∃ x, Hid (x = L5.set 5 (add32 A5 V5)) := ⟨_, hide rfl⟩
                   have HLL6 := hide (show L6.length = 8 by rw [HS5.out, List.length_set]; exact HLL5.out)
                   have ca := blk_at8 HH.out 5 (by omega) HLL5.out A5 HA5.out
                   go_upto_region 34 with (refine wpList_u32_put rfl _ _ rfl gh 5 104 L5 rfl HH.out (by rw [HLL5.out]; omega) (add32 A5 V5) (by exact congrArg (Value.int .u32) (by first | rfl | exact ha1 _ _)) ?_; intro wz hbz hgz hsz; rw [← HS5.out] at hbz; replace HH := hide hbz; replace HF := hide (HF.out.kept hgz); replace HK := hide (HK.out.grown hgz (by intro h; injection h with h; omega)); replace HR := hide (HR.out.grown hgz (by intro h; injection h with h; omega)); replace HW := hide (HW.out.grown hgz HW.out.size (by intro k hk; simp at hk; omega)); clear hbz hgz hsz ca)
                   obtain ⟨A6, HA6⟩ : ∃ x, Hid (L6.getD 6 0 = x) := ⟨_, hide rfl⟩
                   obtain ⟨L7, HS6⟩ : ∃ x, Hid (x = L6.set 6 (add32 A6 V6)) := ⟨_, hide rfl⟩
                   have HLL7 := hide (show L7.length = 8 by rw [HS6.out, List.length_set]; exact HLL6.out)
                   have ca := blk_at8 HH.out 6 (by omega) HLL6.out A6 HA6.out
                   go_upto_region 35 with (refine wpList_u32_put rfl _ _ rfl gh 6 104 L6 rfl HH.out (by rw [HLL6.out]; omega) (add32 A6 V6) (by exact congrArg (Value.int .u32) (by first | rfl | exact ha1 _ _)) ?_; intro wz hbz hgz hsz; rw [← HS6.out] at hbz; replace HH := hide hbz; replace HF := hide (HF.out.kept hgz); replace HK := hide (HK.out.grown hgz (by intro h; injection h with h; omega)); replace HR := hide (HR.out.grown hgz (by intro h; injection h with h; omega)); replace HW := hide (HW.out.grown hgz HW.out.size (by intro k hk; simp at hk; omega)); clear hbz hgz hsz ca)
                   obtain ⟨A7, HA7⟩ : ∃ x, Hid (L7.getD 7 0 = x) := ⟨_, hide rfl⟩
                   obtain ⟨L8, HS7⟩ : ∃ x, Hid (x = L7.set 7 (add32 A7 V7)) := ⟨_, hide rfl⟩
                   have HLL8 := hide (show L8.length = 8 by rw [HS7.out, List.length_set]; exact HLL7.out)
                   have ca := blk_at8 HH.out 7 (by omega) HLL7.out A7 HA7.out
                   go_wp2_with (refine wpList_u32_put rfl _ _ rfl gh 7 104 L7 rfl HH.out (by rw [HLL7.out]; omega) (add32 A7 V7) (by exact congrArg (Value.int .u32) (by first | rfl | exact ha1 _ _)) ?_; intro wz hbz hgz hsz; rw [← HS7.out] at hbz; replace HH := hide hbz; replace HF := hide (HF.out.kept hgz); replace HK := hide (HK.out.grown hgz (by intro h; injection h with h; omega)); replace HR := hide (HR.out.grown hgz (by intro h; injection h with h; omega)); replace HW := hide (HW.out.grown hgz HW.out.size (by intro k hk; simp at hk; omega)); clear hbz hgz hsz ca)
                   have HL8 := hide (show hN L0 VF 8 = L8 by
                    have h1 : hN L0 VF 1 = L1 := by rw [HS0.out, ← HA0.out, ← HV0.out]; rfl
                    have h2 : hN L0 VF 2 = L2 := by rw [HS1.out, ← HA1.out, ← HV1.out, ← h1]; rfl
                    have h3 : hN L0 VF 3 = L3 := by rw [HS2.out, ← HA2.out, ← HV2.out, ← h2]; rfl
                    have h4 : hN L0 VF 4 = L4 := by rw [HS3.out, ← HA3.out, ← HV3.out, ← h3]; rfl
                    have h5 : hN L0 VF 5 = L5 := by rw [HS4.out, ← HA4.out, ← HV4.out, ← h4]; rfl
                    have h6 : hN L0 VF 6 = L6 := by rw [HS5.out, ← HA5.out, ← HV5.out, ← h5]; rfl
                    have h7 : hN L0 VF 7 = L7 := by rw [HS6.out, ← HA6.out, ← HV6.out, ← h6]; rfl
                    have h8 : hN L0 VF 8 = L8 := by rw [HS7.out, ← HA7.out, ← HV7.out, ← h7]; rfl
                    exact h8)
                   go_roundw
                   case measure => simp [intOf]; omega
                   case rel => exact ⟨t + 1, by omega, congrArg (Value.int .i64) (by omega), HF.out, by rw [HBX.out, HL0.out, HMQ.out, HL8.out]; exact HH.out, HK.out, HR.out, HW.out⟩
     · have e : t = J := by omega
       subst e
       have i1 : ¬ (64 * (t : Int)) < ((64 * t : Nat) : Int) := by omega
       obtain ⟨H, HHX⟩ : ∃ x, Hid (blocksN KT IV M t = x) := ⟨_, hide rfl⟩
       rw [HHX.out] at HHB HHL HOUT HRS
       clear HF HK
       go_wp2_with (refine wpList_alloc_blk rfl 25 rfl _ zero_hash ?_; intro wx hbx hwx hsx; obtain ⟨g24, hg24⟩ : ∃ n, wo.heap.size = n := ⟨_, rfl⟩; have hg24a : gh < g24 := (by have := HHB.out.lt; omega); have hg24b : gr < g24 := (by have := HR.out.lt; omega); rw [hg24] at hbx hsx; try rw [hg24]; have HB := hide hbx; replace HHB := hide (HHB.out.below hwx HHB.out.lt); replace HR := hide (HR.out.below hwx HR.out.lt); replace HW := hide (HW.out.trans (hwx.mono HW.out.size)); have hzx : g24 + 1 ≤ wx.heap.size := (by omega); clear hbx hwx hsx)
       go_loopw [25] (fun v25 wq => ∃ i : Nat, i ≤ 8 ∧ v25 = .int .i64 i ∧ Blk wq g24 25 (u8s (outP H i)) ∧ Blk wq gh 104 (u32s H) ∧ Blk wq gr 25 (u8s (List.replicate 32 0)) ∧ Below w.heap.size w wq) (fun v25 _ => 8 - (intOf v25).toNat)
       case atStart => exact ⟨0, by omega, rfl, HB.out, HHB.out, HR.out, HW.out⟩
       case round =>
        obtain ⟨i, hi, rfl, hblk, hhb, hr, hw⟩ := hrel
        clear HB HHB HR HW
        have HB := hide hblk
        have HHB := hide hhb
        have HR := hide hr
        have HW := hide hw
        clear hblk hhb hr hw
        have HOL := hide (outP_len H i HHL.out hi)
        by_cases hi8 : i < 8
        · have HOS0 := outP_step H i HHL.out hi8
          obtain ⟨X1, HX1⟩ : ∃ x, Hid (H.getD i 0 = x) := ⟨_, hide rfl⟩
          rw [HX1.out] at HOS0
          have hX1 : 0 ≤ X1 ∧ X1 < 4294967296 := by
           refine HOUT.out X1 ?_
           rw [← HX1.out, List.getD_eq_getElem?_getD, List.getElem?_eq_getElem (by rw [HHL.out]; exact hi8)]
           exact List.getElem_mem _
          rw [putF_word X1 hX1.1, set4] at HOS0
          obtain ⟨O1, HO1⟩ : ∃ x, Hid (outP H i = x) := ⟨_, hide rfl⟩
          rw [HO1.out] at HB HOL HOS0
          have HOS := hide HOS0
          clear HOS0
          as_aux_lemma =>
           have i8 : (i : Int) < 8 := by omega
           go_upto_region 40 with fail
           refine wp_region_held_drew (S := fun w' => Below w.heap.size w w' ∧ Blk w' gh 104 (u32s H)) (by kernel_rfl) ⟨HW.out.drew, HHB.out.drew⟩ (fun hHeld => ?_)
           replace HB := hide HB.out.drew
           replace HR := hide HR.out.drew
           refine take_e 249 (i := 0) (v := .int .i64 (i : Int)) rfl (by kernel_rfl) (Or.inl ⟨by kernel_rfl, fun w' hS => exec_move _ rfl _ rfl⟩) hHeld ?_
           try simp only [Act.put, s1_, s2_, s3_]
           refine take_e 250 (i := 1) (v := .int .i64 (4 * (i : Int))) rfl (by kernel_rfl) (Or.inl ⟨by kernel_rfl, fun w' hS => exec_i64_mul _ _ _ rfl _ _ _ rfl rfl ((IntWalk.i64_in _ (by omega)).trans (by omega))⟩) hHeld ?_
           try simp only [Act.put, s1_, s2_, s3_]
           refine take_e 251 (i := 2) (v := .int .i64 (i : Int)) rfl (by kernel_rfl) (Or.inl ⟨by kernel_rfl, fun w' hS => exec_move _ rfl _ rfl⟩) hHeld ?_
           try simp only [Act.put, s1_, s2_, s3_]
           refine take_e 252 (i := 3) (v := .int .i64 (4 * (i : Int))) rfl (by kernel_rfl) (Or.inl ⟨by kernel_rfl, fun w' hS => exec_i64_mul _ _ _ rfl _ _ _ rfl rfl ((IntWalk.i64_in _ (by omega)).trans (by omega))⟩) hHeld ?_
           try simp only [Act.put, s1_, s2_, s3_]
           refine take_e 253 (i := 4) (v := .int .i64 (4 * (i : Int) + 1)) rfl (by kernel_rfl) (Or.inl ⟨by kernel_rfl, fun w' hS => exec_i64_add _ _ _ rfl _ _ _ rfl rfl ((IntWalk.i64_in _ (by omega)).trans (by omega))⟩) hHeld ?_
           try simp only [Act.put, s1_, s2_, s3_]
           refine take_e 254 (i := 5) (v := .int .i64 (i : Int)) rfl (by kernel_rfl) (Or.inl ⟨by kernel_rfl, fun w' hS => exec_move _ rfl _ rfl⟩) hHeld ?_
           try simp only [Act.put, s1_, s2_, s3_]
           refine take_e 255 (i := 6) (v := .int .i64 (4 * (i : Int))) rfl (by kernel_rfl) (Or.inl ⟨by kernel_rfl, fun w' hS => exec_i64_mul _ _ _ rfl _ _ _ rfl rfl ((IntWalk.i64_in _ (by omega)).trans (by omega))⟩) hHeld ?_
           try simp only [Act.put, s1_, s2_, s3_]
           refine take_e 256 (i := 7) (v := .int .i64 (4 * (i : Int) + 2)) rfl (by kernel_rfl) (Or.inl ⟨by kernel_rfl, fun w' hS => exec_i64_add _ _ _ rfl _ _ _ rfl rfl ((IntWalk.i64_in _ (by omega)).trans (by omega))⟩) hHeld ?_
           try simp only [Act.put, s1_, s2_, s3_]
           refine take_e 257 (i := 8) (v := .int .i64 (i : Int)) rfl (by kernel_rfl) (Or.inl ⟨by kernel_rfl, fun w' hS => exec_move _ rfl _ rfl⟩) hHeld ?_
           try simp only [Act.put, s1_, s2_, s3_]
           refine take_e 258 (i := 9) (v := .int .i64 (4 * (i : Int))) rfl (by kernel_rfl) (Or.inl ⟨by kernel_rfl, fun w' hS => exec_i64_mul _ _ _ rfl _ _ _ rfl rfl ((IntWalk.i64_in _ (by omega)).trans (by omega))⟩) hHeld ?_
           try simp only [Act.put, s1_, s2_, s3_]
           refine take_e 259 (i := 10) (v := .int .i64 (4 * (i : Int) + 3)) rfl (by kernel_rfl) (Or.inl ⟨by kernel_rfl, fun w' hS => exec_i64_add _ _ _ rfl _ _ _ rfl rfl ((IntWalk.i64_in _ (by omega)).trans (by omega))⟩) hHeld ?_
           try simp only [Act.put, s1_, s2_, s3_]
           refine take_e 260 (i := 11) (v := .int .i64 (i : Int)) rfl (by kernel_rfl) (Or.inl ⟨by kernel_rfl, fun w' hS => exec_move _ rfl _ rfl⟩) hHeld ?_
           try simp only [Act.put, s1_, s2_, s3_]
           refine take_e 261 (i := 12) (v := .pointer (some ⟨gh, i, none⟩)) rfl (by kernel_rfl) (Or.inl ⟨by kernel_rfl, fun w' hS => exec_index_arr104 _ _ rfl gh 0 (i : Int) i (i) rfl rfl (by omega) (by omega) (by omega)⟩) hHeld ?_
           try simp only [Act.put, s1_, s2_, s3_]
           refine take_e 262 (i := 13) (v := .int .u32 (X1)) rfl (by kernel_rfl) (Or.inl ⟨by kernel_rfl, fun w' hS => exec_load_u32 _ rfl gh _ rfl _ (blk_at8 hS.2 i (by omega) HHL.out X1 HX1.out)⟩) hHeld ?_
           try simp only [Act.put, s1_, s2_, s3_]
           refine take_e 263 (i := 14) (v := .int .u32 ((X1) / 16777216)) rfl (by kernel_rfl) (Or.inl ⟨by kernel_rfl, fun w' hS => exec_shr32_24 _ _ rfl _ rfl⟩) hHeld ?_
           try simp only [Act.put, s1_, s2_, s3_]
           refine take_e 264 (i := 15) (v := .int .u8 (IntKind.u8.wrap ((X1) / 16777216))) rfl (by kernel_rfl) (Or.inl ⟨by kernel_rfl, fun w' hS => exec_conv8 _ rfl _ rfl⟩) hHeld ?_
           try simp only [Act.put, s1_, s2_, s3_]
           refine take_e 265 (i := 16) (v := .int .i64 (i : Int)) rfl (by kernel_rfl) (Or.inl ⟨by kernel_rfl, fun w' hS => exec_move _ rfl _ rfl⟩) hHeld ?_
           try simp only [Act.put, s1_, s2_, s3_]
           refine take_e 266 (i := 17) (v := .pointer (some ⟨gh, i, none⟩)) rfl (by kernel_rfl) (Or.inl ⟨by kernel_rfl, fun w' hS => exec_index_arr104 _ _ rfl gh 0 (i : Int) i (i) rfl rfl (by omega) (by omega) (by omega)⟩) hHeld ?_
           try simp only [Act.put, s1_, s2_, s3_]
           refine take_e 267 (i := 18) (v := .int .u32 (X1)) rfl (by kernel_rfl) (Or.inl ⟨by kernel_rfl, fun w' hS => exec_load_u32 _ rfl gh _ rfl _ (blk_at8 hS.2 i (by omega) HHL.out X1 HX1.out)⟩) hHeld ?_
           try simp only [Act.put, s1_, s2_, s3_]
           refine take_e 268 (i := 19) (v := .int .u32 ((X1) / 65536)) rfl (by kernel_rfl) (Or.inl ⟨by kernel_rfl, fun w' hS => exec_shr32_16 _ _ rfl _ rfl⟩) hHeld ?_
           try simp only [Act.put, s1_, s2_, s3_]
           refine take_e 269 (i := 20) (v := .int .u8 (IntKind.u8.wrap ((X1) / 65536))) rfl (by kernel_rfl) (Or.inl ⟨by kernel_rfl, fun w' hS => exec_conv8 _ rfl _ rfl⟩) hHeld ?_
           try simp only [Act.put, s1_, s2_, s3_]
           refine take_e 270 (i := 21) (v := .int .i64 (i : Int)) rfl (by kernel_rfl) (Or.inl ⟨by kernel_rfl, fun w' hS => exec_move _ rfl _ rfl⟩) hHeld ?_
           try simp only [Act.put, s1_, s2_, s3_]
           refine take_e 271 (i := 22) (v := .pointer (some ⟨gh, i, none⟩)) rfl (by kernel_rfl) (Or.inl ⟨by kernel_rfl, fun w' hS => exec_index_arr104 _ _ rfl gh 0 (i : Int) i (i) rfl rfl (by omega) (by omega) (by omega)⟩) hHeld ?_
           try simp only [Act.put, s1_, s2_, s3_]
           refine take_e 272 (i := 23) (v := .int .u32 (X1)) rfl (by kernel_rfl) (Or.inl ⟨by kernel_rfl, fun w' hS => exec_load_u32 _ rfl gh _ rfl _ (blk_at8 hS.2 i (by omega) HHL.out X1 HX1.out)⟩) hHeld ?_
           try simp only [Act.put, s1_, s2_, s3_]
           refine take_e 273 (i := 24) (v := .int .u32 ((X1) / 256)) rfl (by kernel_rfl) (Or.inl ⟨by kernel_rfl, fun w' hS => exec_shr32_8 _ _ rfl _ rfl⟩) hHeld ?_
           try simp only [Act.put, s1_, s2_, s3_]
           refine take_e 274 (i := 25) (v := .int .u8 (IntKind.u8.wrap ((X1) / 256))) rfl (by kernel_rfl) (Or.inl ⟨by kernel_rfl, fun w' hS => exec_conv8 _ rfl _ rfl⟩) hHeld ?_
           try simp only [Act.put, s1_, s2_, s3_]
           refine take_e 275 (i := 26) (v := .int .i64 (i : Int)) rfl (by kernel_rfl) (Or.inl ⟨by kernel_rfl, fun w' hS => exec_move _ rfl _ rfl⟩) hHeld ?_
           try simp only [Act.put, s1_, s2_, s3_]
           refine take_e 276 (i := 27) (v := .pointer (some ⟨gh, i, none⟩)) rfl (by kernel_rfl) (Or.inl ⟨by kernel_rfl, fun w' hS => exec_index_arr104 _ _ rfl gh 0 (i : Int) i (i) rfl rfl (by omega) (by omega) (by omega)⟩) hHeld ?_
           try simp only [Act.put, s1_, s2_, s3_]
           refine take_e 277 (i := 28) (v := .int .u32 (X1)) rfl (by kernel_rfl) (Or.inl ⟨by kernel_rfl, fun w' hS => exec_load_u32 _ rfl gh _ rfl _ (blk_at8 hS.2 i (by omega) HHL.out X1 HX1.out)⟩) hHeld ?_
           try simp only [Act.put, s1_, s2_, s3_]
           refine take_e 278 (i := 29) (v := .int .u8 (IntKind.u8.wrap (X1))) rfl (by kernel_rfl) (Or.inl ⟨by kernel_rfl, fun w' hS => exec_conv8 _ rfl _ rfl⟩) hHeld ?_
           try simp only [Act.put, s1_, s2_, s3_]
           refine take_e 279 (i := 30) (v := .pointer (some ⟨g24, (4 * i), none⟩)) rfl (by kernel_rfl) (Or.inl ⟨by kernel_rfl, fun w' hS => exec_index_hash _ _ rfl g24 (4 * (i : Int)) (4 * i) rfl rfl (by omega)⟩) hHeld ?_
           try simp only [Act.put, s1_, s2_, s3_]
           refine wpAnyH_ready (rs := [31]) (by kernel_rfl) (by simp) (AllReadyH.cons rfl (fun K hK => ?_) AllReadyH.nil)
           rw [if_pos (by kernel_rfl)]
           refine wp_u8_putD rfl _ _ rfl g24 (4 * i) 25 O1 rfl HB.out (by rw [HOL.out]; omega) (X1 / 16777216 % 256) (by exact congrArg (Value.int .u8) (IntKind.wrap_u8 _)) ?_
           intro wp hbp hgp hsp
           have HX := hide (show _ ∧ _ from ⟨hHeld.1.grown hgp hHeld.1.size (by intro k hk; simp at hk; omega), hHeld.2.grown hgp (by intro h; injection h with h; omega)⟩)
           replace HR := hide (HR.out.grown hgp (by intro h; injection h with h; omega))
           replace HB := hide hbp
           clear hbp hgp hsp
           refine hK.out _ _ HX.out (fun hHeld => ?_)
           clear HX hK K
           try simp only [Act.put, s1_, s2_, s3_]
           refine take_e 280 (i := 32) (v := .pointer (some ⟨g24, (4 * i + 1), none⟩)) rfl (by kernel_rfl) (Or.inl ⟨by kernel_rfl, fun w' hS => exec_index_hash _ _ rfl g24 (4 * (i : Int) + 1) (4 * i + 1) rfl rfl (by omega)⟩) hHeld ?_
           try simp only [Act.put, s1_, s2_, s3_]
           refine wpAnyH_ready (rs := [33]) (by kernel_rfl) (by simp) (AllReadyH.cons rfl (fun K hK => ?_) AllReadyH.nil)
           rw [if_pos (by kernel_rfl)]
           refine wp_u8_putD rfl _ _ rfl g24 (4 * i + 1) 25 (O1.set (4 * i) (X1 / 16777216 % 256)) rfl HB.out (by simp only [List.length_set]; rw [HOL.out]; omega) (X1 / 65536 % 256) (by exact congrArg (Value.int .u8) (IntKind.wrap_u8 _)) ?_
           intro wp hbp hgp hsp
           have HX := hide (show _ ∧ _ from ⟨hHeld.1.grown hgp hHeld.1.size (by intro k hk; simp at hk; omega), hHeld.2.grown hgp (by intro h; injection h with h; omega)⟩)
           replace HR := hide (HR.out.grown hgp (by intro h; injection h with h; omega))
           replace HB := hide hbp
           clear hbp hgp hsp
           refine hK.out _ _ HX.out (fun hHeld => ?_)
           clear HX hK K
           try simp only [Act.put, s1_, s2_, s3_]
           refine take_e 281 (i := 34) (v := .pointer (some ⟨g24, (4 * i + 2), none⟩)) rfl (by kernel_rfl) (Or.inl ⟨by kernel_rfl, fun w' hS => exec_index_hash _ _ rfl g24 (4 * (i : Int) + 2) (4 * i + 2) rfl rfl (by omega)⟩) hHeld ?_
           try simp only [Act.put, s1_, s2_, s3_]
           refine wpAnyH_ready (rs := [35]) (by kernel_rfl) (by simp) (AllReadyH.cons rfl (fun K hK => ?_) AllReadyH.nil)
           rw [if_pos (by kernel_rfl)]
           refine wp_u8_putD rfl _ _ rfl g24 (4 * i + 2) 25 ((O1.set (4 * i) (X1 / 16777216 % 256)).set (4 * i + 1) (X1 / 65536 % 256)) rfl HB.out (by simp only [List.length_set]; rw [HOL.out]; omega) (X1 / 256 % 256) (by exact congrArg (Value.int .u8) (IntKind.wrap_u8 _)) ?_
           intro wp hbp hgp hsp
           have HX := hide (show _ ∧ _ from ⟨hHeld.1.grown hgp hHeld.1.size (by intro k hk; simp at hk; omega), hHeld.2.grown hgp (by intro h; injection h with h; omega)⟩)
           replace HR := hide (HR.out.grown hgp (by intro h; injection h with h; omega))
           replace HB := hide hbp
           clear hbp hgp hsp
           refine hK.out _ _ HX.out (fun hHeld => ?_)
           clear HX hK K
           try simp only [Act.put, s1_, s2_, s3_]
           refine take_e 282 (i := 36) (v := .pointer (some ⟨g24, (4 * i + 3), none⟩)) rfl (by kernel_rfl) (Or.inl ⟨by kernel_rfl, fun w' hS => exec_index_hash _ _ rfl g24 (4 * (i : Int) + 3) (4 * i + 3) rfl rfl (by omega)⟩) hHeld ?_
           try simp only [Act.put, s1_, s2_, s3_]
           refine wpAnyH_ready (rs := [37]) (by kernel_rfl) (by simp) (AllReadyH.cons rfl (fun K hK => ?_) AllReadyH.nil)
           rw [if_pos (by kernel_rfl)]
           refine wp_u8_putD rfl _ _ rfl g24 (4 * i + 3) 25 (((O1.set (4 * i) (X1 / 16777216 % 256)).set (4 * i + 1) (X1 / 65536 % 256)).set (4 * i + 2) (X1 / 256 % 256)) rfl HB.out (by simp only [List.length_set]; rw [HOL.out]; omega) (X1 % 256) (by exact congrArg (Value.int .u8) (IntKind.wrap_u8 _)) ?_
           intro wp hbp hgp hsp
           have HX := hide (show _ ∧ _ from ⟨hHeld.1.grown hgp hHeld.1.size (by intro k hk; simp at hk; omega), hHeld.2.grown hgp (by intro h; injection h with h; omega)⟩)
           replace HR := hide (HR.out.grown hgp (by intro h; injection h with h; omega))
           replace HB := hide hbp
           clear hbp hgp hsp
           refine hK.out _ _ HX.out (fun hHeld => ?_)
           clear HX hK K
           try simp only [Act.put, s1_, s2_, s3_]
           refine wpAnyH_done (by kernel_rfl) ?_ _
           replace HW := hide hHeld.1
           replace HHB := hide hHeld.2
           clear hHeld
           rw [HOS.out] at HB
           go_wp2_with fail
           go_roundw
           case measure => simp [intOf]; omega
           case rel => exact ⟨i + 1, by omega, by go_num, HB.out, HHB.out, HR.out, HW.out⟩
        · have e : i = 8 := by omega
          subst e
          rw [outP_all H HHL.out, HRS.out] at HB HOL
          go_wp2_with (first
           | (refine wpList_load_blk rfl 25 _ rfl g24 rfl _ _ HB.out 32 5 rfl (by rw [u8s_len, HOL.out]; exact size_hash) ?_)
           | (refine wpList_store_blk rfl 25 _ _ rfl gr 0 (u8s RES) rfl rfl _ _ HR.out (by rw [u8s_len, u8s_len, HOL.out]; simp) (by rw [u8s_len, HOL.out]; exact size_hash) (u8s_one _) ?_; intro w7 hb7 hg7 hs7; rw [lset_all _ _ (by rw [u8s_len, u8s_len, HOL.out]; rfl)] at hb7; have HR2 := hide hb7; have HW2 := hide (HW.out.grown hg7 HW.out.size (by intro k hk; simp at hk; omega)); clear hb7 hg7))
          refine bodyPost_ret (v := .agg (u8s RES).toArray) (results_cell_row rfl _ _ gr 25 _ (0, 0) _ rfl HR2.out Tryd.underlying25 rfl (by rw [List.size_toArray, u8s_len, HOL.out]; exact size_hash)) rfl ?_
          exact ⟨rfl, HW2.out⟩
end Go.Proofs.YthdjgebbjogmiaaDoor
