/- (*Sha).Sum: what is left and what is set behind it are mixed in; the words' bytes. Condition: at most 2^46 bytes, less than a block left. -/
import Derived.Test.YthdjgebbjogmiaaDoorJoin27
import Derived.Test.YthdjgebbjogmiaaDoorJoin26
import Derived.Test.YthdjgebbjogmiaaDoorJoin6
set_option linter.unusedVariables false
set_option linter.unusedSimpArgs false
namespace Go.Proofs.YthdjgebbjogmiaaDoor
open Go Go.RowKit

theorem lset_app3 (xs0 bs cs vs : List Value) (h : bs.length = vs.length) : lset (xs0 ++ (bs ++ cs)) xs0.length vs = xs0 ++ (vs ++ cs) := by
 refine List.ext_getElem? fun j => ?_
 rw [lset_get _ _ _ _ (by simp; omega)]
 by_cases h1 : j < xs0.length
 · rw [if_neg (by omega), List.getElem?_append_left h1, List.getElem?_append_left h1]
 · rw [List.getElem?_append_right (l₁ := xs0) (by omega), List.getElem?_append_right (l₁ := xs0) (by omega)]
   by_cases h2 : j - xs0.length < vs.length
   · rw [if_pos (by omega), List.getElem?_append_left h2]
   · rw [if_neg (by omega), List.getElem?_append_right (l₁ := bs) (by omega), List.getElem?_append_right (l₁ := vs) (by omega), h]
theorem zero_hash : (Tryd.prog.info? 25).map (·.zero) = some (some (.agg (u8s (List.replicate 32 0)).toArray)) := by kernel_rfl
/-- The bytes of the first i words, noughts behind them. -/
def outP (hs : List Int) (i : Nat) : List Int := outF (hs.take i) ++ List.replicate (32 - 4 * i) 0
theorem outP_len (hs : List Int) (i : Nat) (h : hs.length = 8) (hi : i ≤ 8) : (outP hs i).length = 32 := by
 unfold outP
 rw [List.length_append, outF_len, List.length_take, List.length_replicate]
 omega
theorem outP_all (hs : List Int) (h : hs.length = 8) : outP hs 8 = outF hs := by
 unfold outP
 rw [List.take_of_length_le (by omega)]
 simp
theorem outP_step (hs : List Int) (i : Nat) (h : hs.length = 8) (hi : i < 8) : lset (u8s (outP hs i)) (4 * i) (u8s (putF (hs.getD i 0) 4)) = u8s (outP hs (i + 1)) := by
 have e1 : outP hs i = outF (hs.take i) ++ (List.replicate 4 0 ++ List.replicate (32 - 4 * (i + 1)) 0) := by
  unfold outP
  rw [List.replicate_append_replicate]
  congr 2
  omega
 have e2 : outP hs (i + 1) = outF (hs.take i) ++ (putF (hs.getD i 0) 4 ++ List.replicate (32 - 4 * (i + 1)) 0) := by
  unfold outP
  rw [List.take_succ_eq_append_getElem (by omega), outF, List.flatMap_append, List.append_assoc]
  congr 2
  rw [List.getD_eq_getElem?_getD, List.getElem?_eq_getElem (by omega)]
  simp
 have e3 : (u8s (outF (hs.take i))).length = 4 * i := by rw [u8s_len, outF_len, List.length_take]; omega
 rw [e1, e2, ← u8s_app, ← u8s_app, ← u8s_app, ← u8s_app]
 rw [← e3]
 exact lset_app3 _ _ _ _ (by rw [u8s_len, u8s_len, putF_len4]; simp)
section
variable {o : Oper} {a : Act} {w : World} {K : Act → World → Prop} {Q : Exit → Act → World → Prop}
theorem exec_hash_from (x y : Operand) (ho : o.op = .slice 25 x (some y) none none) (g j : Nat) (k : Int) (hk : k = (j : Int)) (hx : a.eval x = .pointer (some ⟨g, 0, none⟩)) (hy : a.eval y = .int .i64 k) (hj : j < 32) : (execOp a.eval o).run Tryd.prog w = .ok (.value (.slice (some ⟨g, j, none⟩) (32 - j) (32 - j))) w := by
 subst hk
 unfold execOp
 simp only [ho, hx, Option.map_some, hy]
 have h0 : (0 : Int) ≤ (j : Int) := by omega
 have h1 : (j : Int) ≤ 32 := by omega
 have h2 : ¬ j = 32 := by omega
 have h3 : ¬ 32 = j := by omega
 go_simp
theorem exec_u32_int (x : Operand) (ho : o.op = .convert 101 3 x) (p : Int) (hx : a.eval x = .int .u32 p) (h0 : 0 ≤ p) (h1 : p < 4294967296) : (execOp a.eval o).run Tryd.prog w = .ok (.value (.int .i64 p)) w := by
 unfold execOp
 simp only [ho, hx]
 have : IntKind.i64.wrap p = p := IntWalk.i64_in _ (by omega)
 go_simp
theorem wp_load_u8xD (d : Nat) (hd : o.dst = some d) (x : Operand) (ho : o.op = .load 104 x) (g : Nat) (hx : a.eval x = .pointer (some ⟨g, 0, none⟩)) (h : List Int) (hh : h.length = 8) (hB : Blk w g 104 (u32s h)) (hc : K (a.put (some d) (.agg (u32s h).toArray)) w) : o.wp Tryd.prog a w K Q :=
 wp_load_mid _ x ho g 0 hx _ _ (blk_range hB 0 _ (fun j u hu => by rw [Nat.zero_add]; exact hu)) Tryd.underlying104 rfl (by rw [u32s_len, hh]; exact size_a8) (by rw [hd]; exact hc)
theorem wp_copy_blkD (d : Nat) (hd : o.dst = some d) (x y : Operand) (ho : o.op = .call { callee := .builtin .copy, args := #[x, y], argTypes := #[26, 26] }) (g of n c : Nat) (hx : a.eval x = .slice (some ⟨g, of, none⟩) n c) (v : Value) (ys : List Int) (B : Nat) (hy : a.eval y = v) (hr : Bs w B v ys) (hl : 0 < ys.length) (hn : ys.length ≤ n)
 (t : TypeId) (cs : List Value) (hB : Blk w g t cs) (hc : of + (u8s ys).length ≤ cs.length) (h : ∀ w', Blk w' g t (lset cs of (u8s ys)) → w.grownBy w' (some g) → w'.heap.size = w.heap.size → K (a.put (some d) (.int .i64 ys.length)) w') : o.wp Tryd.prog a w K Q := by
 obtain ⟨A, cp, rfl, h1, h2, h4, h3⟩ := hr
 obtain ⟨b, ob, rfl, hb, hcell⟩ := h3 hl
 have hrun := run_copy_cells (P := Tryd.prog) w 26 26 o.type 5 g of n c ⟨b, ob, none⟩ ys.length cp (u8s ys) Tryd.underlying26 (by kernel_rfl) (by rw [u8s_len]; exact (Nat.min_eq_left hn).symm)
  (fun j u hu => by rw [Addr.add_lit]; exact hcell j u hu) (fun j hj => by rw [hB.cell, List.getElem?_eq_getElem (by omega)]; rfl) (fun j hj => hB.frozen _) (u8s_one ys)
 have hg := grown_setCells (u8s ys) w of (g := g)
 unfold Oper.wp execOp
 simp only [ho, resolve, invoke, builtin, Sem.run_bind, Sem.run_pure, Result.andThen_ok, List.map_toArray, List.map_cons, List.map_nil, hx, hy, hrun]
 have := h _ (Blk.setCells (u8s ys) of hB) hg.1 hg.2
 show K (a.put o.dst _) _
 rw [hd, u8s_len]
 exact this
theorem wpList_index_u32s {ops : Array Oper} {rest : List Oper} (x y : Operand) (ho : o.op = .index 104 x y) (hs : List Int) (i : Nat) (hx : a.eval x = .agg (u32s hs).toArray) (hy : a.eval y = .int .i64 (i : Int)) (hw : Region.wanted o (yielded ops a.tmps) = true) (hl : hs.length = 8) (hi : i < 8) (X : Int) (hX : hs.getD i 0 = X)
 (h : wpList Tryd.prog ops Q rest (a.put o.dst (.int .u32 X)) w) : wpList Tryd.prog ops Q (o :: rest) a w := by
 refine wpList_index_agg _ x y ho _ _ (.int .u32 X) hx hy hw ?_ h
 have h0 : (0 : Int) ≤ (i : Int) := by omega
 have h1 : (i : Int) < 8 := by omega
 have h3 : ¬ 8 ≤ i := by omega
 have h2 : (u32s hs)[i]? = some (.int .u32 X) := by
  rw [u32s, List.getElem?_map, List.getElem?_eq_getElem (by omega), ← hX, List.getD_eq_getElem?_getD, List.getElem?_eq_getElem (by omega)]
  rfl
 simp [Instr.index, run_underlying Tryd.underlying104, run_underlying Tryd.underlying101, go_sem, h0, h1, h2, h3]
end

set_option maxRecDepth 100000
set_option maxHeartbeats 8000000 in
theorem SumM_any (H r : List Int) (N g : Nat) (lv : Value) (w : World) (hh : H.length = 8) (hS : ShaB w g H kT lv (N : Int)) (hv : Suf w g lv r) (hb : Bytes r) (hr : r.length < 64) (hrN : r.length % 64 = N % 64) (hN : N ≤ 70368744177664) :
 Calls Tryd.prog 102 #[.pointer (some ⟨g, 0, none⟩)] w fun e w' => e = .returned (.agg (u8s (outF (blocksN kT H (r ++ tailF N) ((r.length + 72) / 64)))).toArray) ∧ Below w.heap.size w w' := by
 have HH := hide hh
 have HV := hide hv.reads
 have HBY := hide hb
 have HS := hide hS
 have c72 := hS.cLeft hh rfl
 have hgz := Blk.lt hS
 have HK := hide (fun (w' : World) (hw : Below w.heap.size w w') => show w'.rangeAt g 8 (u32s kT) from ShaB.rK (h := H) (l := lv) (n := (N : Int)) (Blk.below hS hw hgz) hh rfl)
 obtain ⟨R, HR⟩ : ∃ n : Nat, Hid (r.length = n) := ⟨_, hide rfl⟩
 have HTL := hide (tailF_len N)
 have HTB := hide (tailF_bytes N)
 obtain ⟨Z, HZ⟩ : ∃ n : Nat, Hid (zc N = n) := ⟨_, hide rfl⟩
 have hzR : zc R = Z := by rw [← HR.out, ← HZ.out, ← zc_mod, hrN, zc_mod]
 have hZ64 : Z < 64 := by rw [← HZ.out]; exact zc_lt _
 have HZE := hide (show (R + 1 + Z) % 64 = 56 by rw [← hzR]; exact zc_ends R)
 have HZB := hide (fun j (hj : j < Z) => show (R + 1 + j) % 64 ≠ 56 from zc_before R j (by rw [hzR]; exact hj))
 obtain ⟨P8, HP8⟩ : ∃ x, Hid (putF (IntKind.i64.wrap (8 * (N : Int))) 8 = x) := ⟨_, hide rfl⟩
 have HP8L := hide (show P8.length = 8 by rw [← HP8.out]; unfold putF; rw [putN_len]; rfl)
 have HP8B := hide (show Bytes P8 by rw [← HP8.out]; exact putF_bytes _ _)
 obtain ⟨E, HE⟩ : ∃ x, Hid (r ++ tailF N = x) := ⟨_, hide rfl⟩
 have HEE := hide (show r ++ 128 :: List.replicate Z 0 ++ P8 = E by rw [← HE.out, ← HZ.out, ← HP8.out]; unfold tailF; rw [List.append_assoc])
 have hEL : E.length = 64 * ((R + 72) / 64) := by
  rw [← HE.out, List.length_append, HTL.out, HZ.out, HR.out]
  have := HZE.out
  omega
 have HPM := hide (show putF (8 * (N : Int)) 8 = P8 by rw [← HP8.out, IntWalk.i64_in _ (by omega)])
 have HXN := hide (fun j => show (r ++ 128 :: List.replicate j 0) ++ [0] = r ++ 128 :: List.replicate (j + 1) 0 by rw [List.append_assoc, List.cons_append, ← List.replicate_succ'])
 have HXL := hide (fun j => show (r ++ 128 :: List.replicate j 0).length = R + 1 + j by rw [List.length_append, List.length_cons, List.length_replicate, HR.out]; omega)
 have HN8 := hide (show -9223372036854775808 ≤ 8 * (N : Int) ∧ 8 * (N : Int) ≤ 9223372036854775807 by omega)
 obtain ⟨J, HJ⟩ : ∃ n : Nat, Hid ((R + 72) / 64 = n) := ⟨_, hide rfl⟩
 rw [HJ.out] at hEL
 have hJ2 : J ≤ 2 ∧ 1 ≤ J := by have := HJ.out; have := HR.out; omega
 rw [HE.out, HR.out, HJ.out]
 have HBL := hide (fun i => blocksN_len kT H E hh i)
 have HBM := hide (fun i => show mixF kT (blocksN kT H E i) ((E.drop (64 * i)).take 64) = blocksN kT H E (i + 1) from mixF_take _ _ _)
 have HDR := hide (fun i => show (E.drop (64 * i)).drop 64 = E.drop (64 * (i + 1)) by rw [List.drop_drop]; congr 1)
 have HDL := hide (fun i => show (E.drop (64 * i)).length = E.length - 64 * i from List.length_drop)
 obtain ⟨RES, HRES⟩ : ∃ x, Hid (outF (blocksN kT H E J) = x) := ⟨_, hide rfl⟩
 have HOUT := hide (show ∀ x ∈ blocksN kT H E J, 0 ≤ x ∧ x < 4294967296 by
  obtain ⟨k, hk⟩ : ∃ k, J = k + 1 := ⟨J - 1, by omega⟩
  rw [hk, blocksN]
  exact mixF_words _ _ _ (blocksN_len _ _ _ hh _))
 rw [HRES.out]
 have hR64 : R < 64 := by rw [← HR.out]; exact hr
 clear hS hv hb hh hr hrN hzR
 go_enter Tryd.func102, Tryd.ntmps102
 obtain ⟨gr, hgr⟩ : ∃ n, w.heap.size = n := ⟨_, rfl⟩
 go_wp2_with (first
  | (refine wpList_alloc_blk rfl 25 rfl _ zero_hash ?_; intro w1 hb1 hw1 hs1; have HR1 := hide hb1; have HW1 := hide hw1; have c72' := (hw1.cell (p := ⟨g, 72, none⟩) hgz).trans c72; have HV1 := hide (HV.out.below hw1 (Nat.le_refl _)); clear hb1 hw1 HV c72)
  | (at_builtin; refine wpList_append_B rfl _ _ rfl w1.heap.size v12 r rfl HO3.out _ _ [128] rfl HL3.out (by intro x hx; simp at hx; omega) (by rw [HR.out]; simp; omega) (by omega) ?_; intro v14 w4 ho4 hg4; have HO4 := hide ho4; have HW4 := hide (HW3.out.grown hg4 (by omega) (fun k hk => by have := (HO3.out.base_ k hk).1; omega)); clear ho4 hg4 HW3 HO3 HL3)
  | (at_builtin; refine wpList_append_B rfl _ _ rfl w1.heap.size (.slice none 0 0) [] rfl (RowB.nil_ _ _) w.heap.size _ r rfl HV1.out HBY.out (by rw [HR.out]; simp; omega) (Nat.le_refl _) ?_; intro v12 w2 ho2 hg2; rw [List.nil_append] at ho2; have HO2 := hide ho2; have hz2 := hg2.size; have HW2 := hide ((Below.refl w1.heap.size w1).grown hg2 (Nat.le_refl _) (by intro k hk; simp [Value.ownBlock] at hk)); clear ho2 hg2 HV1 c72')
  | (refine wpList_lit1v rfl _ rfl _ rfl 128 rfl ?_; intro g3 w3 bk3 hg3 hb3; have HL3 := hide ((RowB.of_blk (base := 0) bk3 (by omega) (by intro x hx; simp at hx; omega) (by unfold maxLen; simp)).reads); have HO3 := hide (HO2.out.keptB hb3); have HW3 := hide (HW2.out.trans (hb3.mono hz2)); have hz3 := hb3.size; clear bk3 hg3 hb3))
 have hz1 : w1.heap.size = gr + 1 := by omega
 have HO4x := hide (show RowB w4 w1.heap.size v14 (r ++ 128 :: List.replicate 0 0) from HO4.out)
 go_loopw [3] (fun v3 wr => ∃ j : Nat, j ≤ Z ∧ RowB wr w1.heap.size v3 (r ++ 128 :: List.replicate j 0) ∧ Below w1.heap.size w1 wr) (fun v3 _ => (match v3 with | .slice _ n _ => 1000 - n | _ => 0))
 case atStart => exact ⟨0, by omega, HO4x.out, HW4.out⟩
 case round =>
  obtain ⟨j, hj, ho, hw⟩ := hrel
  clear HO4x HO4 HW4
  have HO := hide ho
  have HW := hide hw
  have hwz := hw.size
  have hql := HXL.out j
  have HXJ := hide (HXN.out j)
  obtain ⟨X, HX⟩ : ∃ x, Hid (r ++ 128 :: List.replicate j 0 = x) := ⟨_, hide rfl⟩
  rw [HX.out] at HO HXJ hql
  obtain ⟨A3, c3, rfl⟩ := HO.out.shape
  obtain ⟨q, HQ⟩ : ∃ n : Nat, Hid (X.length = n) := ⟨_, hide rfl⟩
  have HQX := HQ
  rw [HQ.out] at hql HO ⊢
  obtain ⟨m, HM⟩ : ∃ n : Nat, Hid (q % 64 = n) := ⟨_, hide rfl⟩
  have hm1 : (q : Int) % 64 = (m : Int) := by rw [← HM.out]; omega
  have hm2 : m < 64 := by rw [← HM.out]; omega
  have hq2 : q ≤ 200 := by omega
  have HQL := hide hql
  clear ho hw hql
  by_cases hjz : j < Z
  · have hb : ((m : Int) != 56) = true := by
     have := HZB.out j hjz
     have e := HM.out
     rw [HQL.out] at e
     have : m ≠ 56 := by omega
     simp; omega
    go_wp2_with (first
     | (at_builtin; refine wpList_append_B rfl _ _ rfl w1.heap.size _ X rfl HO5.out _ _ [0] rfl HL5.out (by intro x hx; simp at hx; omega) (by rw [HQ.out]; simp; omega) (by omega) ?_; intro v6 w6 ho6 hg6; have HO6 := hide ho6; have HW6 := hide (HW5.out.grown hg6 (by omega) (fun k hk => (HO5.out.base_ k hk).1)); clear ho6 hg6 HW5 HO5 HL5)
     | (refine wpList_lit1v rfl _ rfl _ rfl 0 rfl ?_; intro g5 w5 bk5 hg5 hb5; have HL5 := hide ((RowB.of_blk (base := 0) bk5 (by omega) (by intro x hx; simp at hx; omega) (by unfold maxLen; simp)).reads); have HO5 := hide (HO.out.keptB hb5); have HW5 := hide (HW.out.trans (hb5.mono hwz)); have hz5 := hb5.size; clear bk5 hg5 hb5))
    go_roundw
    case measure =>
     obtain ⟨A6, c6, rfl⟩ := HO6.out.shape
     have := HQX.out
     simp
     omega
    case rel => exact ⟨j + 1, by omega, by rw [← HXJ.out]; exact HO6.out, HW6.out⟩
  · have e : j = Z := by omega
    subst e
    have hb : ((m : Int) != 56) = false := by
     have := HZE.out
     have e := HM.out
     rw [HQL.out] at e
     have : m = 56 := by omega
     simp; omega
    rw [HX.out] at HEE
    clear HZB HZE HXN HXL HXJ
    have HWO := hide (HW1.out.trans (HW.out.mono (by omega)))
    have HRO := hide (HR1.out.below HW.out (by omega))
    have HSO := hide (show ShaB wr g H kT lv N from Blk.below HS.out HWO.out hgz)
    have c73 := HSO.out.cN HH.out rfl
    clear HW HR1 HW1
    go_wp2_with fail
    refine (Put_any (8 * (N : Int)) 8 _ HN8.out (by omega)).mono ?_
    rintro e w7 ⟨v28, rfl, ho7, hb7⟩
    rw [HPM.out] at ho7
    have HO7 := hide ho7.reads
    have HO8 := hide (HO.out.keptB hb7)
    have HW8 := hide (HWO.out.trans (hb7.mono (by omega)))
    have HR8 := hide (HRO.out.below hb7 HRO.out.lt)
    have HS8 := hide (show ShaB w7 g H kT lv N from Blk.below HSO.out hb7 (by have := Blk.lt HSO.out; omega))
    have hz7 := hb7.size
    clear ho7 hb7 HO HWO HRO HSO c73
    go_wp2_with (first
     | (at_builtin; refine wpList_append_B rfl _ _ rfl w1.heap.size (.slice A3 q c3) X rfl HO8.out _ _ P8 rfl HO7.out HP8B.out (by rw [HQ.out, HP8L.out]; omega) (by omega) ?_; intro v9 w9 ho9 hg9; rw [HEE.out] at ho9; have HO9 := hide ho9; have hz9 := hg9.size; have HW9 := hide (HW8.out.grown hg9 (by omega) (fun k hk => by have := (HO8.out.base_ k hk).1; omega)); have HR9 := hide (HR8.out.grown hg9 (by intro he; have := (HO8.out.base_ gr (by rw [← hgr]; exact he.symm)).1; omega)); have HS9 := hide (show ShaB w9 g H kT lv N from Blk.grown HS8.out hg9 (by intro he; have := (HO8.out.base_ g he.symm).1; omega)); clear ho9 hg9 HO8 HW8 HR8 HS8 HO7)
     | (refine wpList_sha_loadH rfl _ rfl rfl HS9.out HH.out ?_)
     | (refine wpList_alloc_blk rfl 104 rfl _ zero_a8 ?_; intro w10 hb10 hw10 hs10; have HB10 := hide hb10; have HF10 := hide ((Suf.of_old (g := w9.heap.size) HO9.out (Nat.le_refl _)).keptB hw10); have HW10 := hide (HW9.out.trans (hw10.mono HW9.out.size)); have HR10 := hide (HR9.out.below hw10 HR9.out.lt); clear hb10 hw10 HO9 HW9 HR9 HS9)
     | (refine wpList_store_blk rfl 104 _ _ rfl w9.heap.size 0 (u32s H) rfl rfl _ _ HB10.out (by rw [u32s_len, u32s_len, HH.out]; simp) (by rw [u32s_len, HH.out]; exact size_a8) (u32s_one _) ?_; intro w11 hb11 hg11 hs11; rw [lset_all _ _ (by rw [u32s_len, u32s_len, HH.out]; simp)] at hb11; have HB11 := hide hb11; have HF11 := hide (HF10.out.kept hg11); have HW11 := hide (HW10.out.grown hg11 (by omega) (by intro k hk; simp at hk; omega)); have HR11 := hide (HR10.out.grown hg11 (by intro he; injection he with he; omega)); clear hb11 hg11 HB10 HF10 HW10 HR10))
    obtain ⟨g4, hg4⟩ : ∃ n, w9.heap.size = n := ⟨_, rfl⟩
    rw [hg4] at HB11 HF11 ⊢
    simp only [Act.put, s1_, s2_, s3_]
    have hg4z : gr < g4 := by omega
    go_loopw [3] (fun v3 wr => ∃ i : Nat, i ≤ J ∧ Suf wr g4 v3 (E.drop (64 * i)) ∧ Blk wr g4 104 (u32s (blocksN kT H E i)) ∧ Blk wr gr 25 (u8s (List.replicate 32 0)) ∧ Below w.heap.size w wr) (fun v3 _ => (match v3 with | .slice _ n _ => n | _ => 0))
    case atStart => exact ⟨0, by omega, HF11.out, HB11.out, by rw [← hgr]; exact HR11.out, HW11.out⟩
    case round =>
     obtain ⟨i, hi, hf, hblk, hres, hw⟩ := hrel
     clear HF11 HB11 HR11 HW11
     have HF := hide hf
     have HB := hide hblk
     have HR := hide hres
     have HW := hide hw
     have HHL := hide (HBL.out i)
     have HHN := hide (HBL.out (i + 1))
     have HMX := hide (HBM.out i)
     have HXD := hide (HDR.out i)
     have hxl := HDL.out i
     clear hf hblk hres hw
     obtain ⟨xs, HXS⟩ : ∃ x, Hid (E.drop (64 * i) = x) := ⟨_, hide rfl⟩
     obtain ⟨H1, HHX⟩ : ∃ x, Hid (blocksN kT H E i = x) := ⟨_, hide rfl⟩
     rw [HXS.out] at HF HMX HXD hxl
     rw [HHX.out] at HB HMX HHL
     by_cases hij : i < J
     · obtain ⟨H2, HHY⟩ : ∃ x, Hid (blocksN kT H E (i + 1) = x) := ⟨_, hide rfl⟩
       rw [HHY.out] at HMX HHN
       obtain ⟨r', o, c, rfl, hc1, hc2, hF⟩ := HF.out.pos (by omega)
       unfold maxLen at hc2
       replace HF := hide hF
       clear hF
       obtain ⟨n, HN⟩ : ∃ n : Nat, Hid (xs.length = n) := ⟨_, hide rfl⟩
       have hn64 : 64 ≤ n ∧ 64 ≤ xs.length := by have := HN.out; omega
       have HNX := HN
       rw [HN.out] at hc1 HF hxl ⊢
       have i64 : (64 : Int) ≤ (c : Int) := by omega
       have i65 : (0 : Int) < (n : Int) := by omega
       go_upto_region 7 with fail
       refine wp_region_held_drew (S := fun w' => Below w.heap.size w w') (by kernel_rfl) HW.out.drew (fun hHeld => ?_)
       replace HB := hide (Blk.drew HB.out)
       replace HR := hide (Blk.drew HR.out)
       replace HF := hide (Suf.keptB HF.out ((Below.refl _ _).drew))
       refine take_e 38 (i := 1) (v := (.pointer (some ⟨g, 0, none⟩))) rfl (by kernel_rfl) (Or.inl ⟨by kernel_rfl, fun w' hS => exec_move _ rfl _ rfl⟩) hHeld ?_
       try simp only [Act.put, s1_, s2_, s3_]
       refine take_e 39 (i := 2) (v := (.pointer (some ⟨g, 0, none⟩))) rfl (by kernel_rfl) (Or.inl ⟨by kernel_rfl, fun w' hS => exec_nilCheck _ rfl _ rfl⟩) hHeld ?_
       try simp only [Act.put, s1_, s2_, s3_]
       refine take_e 40 (i := 3) (v := (.pointer (some ⟨g, 8, none⟩))) rfl (by kernel_rfl) (Or.inl ⟨by kernel_rfl, fun w' hS => exec_field_sha _ 1 8 rfl g rfl rfl⟩) hHeld ?_
       try simp only [Act.put, s1_, s2_, s3_]
       refine take_e 41 (i := 4) (v := (.slice (some ⟨r', o, none⟩) n c)) rfl (by kernel_rfl) (Or.inl ⟨by kernel_rfl, fun w' hS => exec_move _ rfl _ rfl⟩) hHeld ?_
       try simp only [Act.put, s1_, s2_, s3_]
       refine take_e 42 (i := 5) (v := (.slice (some ⟨r', o, none⟩) 64 c)) rfl (by kernel_rfl) (Or.inl ⟨by kernel_rfl, fun w' hS => exec_to64 _ rfl r' o n c rfl (by omega)⟩) hHeld ?_
       try simp only [Act.put, s1_, s2_, s3_]
       refine wpAnyH_ready (rs := [0]) (by kernel_rfl) (by simp) (AllReadyH.cons rfl (fun K hK => ?_) AllReadyH.nil)
       rw [if_pos (by kernel_rfl)]
       refine wp_load_u8xD 37 rfl _ rfl g4 rfl H1 HHL.out HB.out ?_
       refine hK.out _ _ hHeld (fun hHeld => ?_)
       clear hK K
       try simp only [Act.put, s1_, s2_, s3_]
       refine wpAnyH_ready (rs := [6]) (by kernel_rfl) (by simp) (AllReadyH.cons rfl (fun K hK => ?_) AllReadyH.nil)
       rw [if_pos (by kernel_rfl)]
       try go_simp
       refine (mix_any H1 (xs.take 64) kT g 8 (.slice (some ⟨r', o, none⟩) 64 c) _ HHL.out rfl (by have := Bs.take HF.out.reads 64 (by omega); exact this) (by rw [List.length_take]; omega) (HK.out _ hHeld) (by have := hHeld.size; omega)).mono ?_
       rintro e wc ⟨rfl, hb⟩
       rw [HMX.out]
       have HX := hide (hHeld.trans (hb.mono (by have := hHeld.size; omega)))
       replace HF := hide (HF.out.keptB hb)
       replace HB := hide (HB.out.below hb HB.out.lt)
       replace HR := hide (HR.out.below hb HR.out.lt)
       clear hb
       refine hK.out _ _ HX.out (fun hHeld => ?_)
       clear HX hK K
       try simp only [Act.put, s1_, s2_, s3_]
       refine wpAnyH_ready (rs := [7]) (by kernel_rfl) (by simp) (AllReadyH.cons rfl (fun K hK => ?_) AllReadyH.nil)
       rw [if_pos (by kernel_rfl)]
       refine wp_store_blkD _ _ _ rfl rfl g4 0 (u32s H2) rfl rfl _ _ HB.out (by rw [u32s_len, u32s_len, HHL.out, HHN.out]; simp) (by rw [u32s_len, HHN.out]; exact size_a8) (u32s_one _) ?_
       intro wp hbp hgp hsp
       rw [lset_all _ _ (by rw [u32s_len, u32s_len, HHL.out, HHN.out])] at hbp
       have HX := hide (hHeld.grown hgp (by have := hHeld.size; omega) (by intro k hk; simp at hk; omega))
       replace HF := hide (HF.out.kept hgp)
       replace HR := hide (HR.out.grown hgp (by intro h; injection h with h; omega))
       replace HB := hide hbp
       clear hbp hgp hsp
       refine hK.out _ _ HX.out (fun hHeld => ?_)
       clear HX hK K
       try simp only [Act.put]
       refine wpAnyH_done (by kernel_rfl) ?_ _
       replace HW := hide hHeld
       clear hHeld
       go_wp2_with fail
       go_roundw
       case measure => simp; omega
       case rel =>
        refine ⟨i + 1, by omega, ?_, by rw [HHY.out]; exact HB.out, HR.out, HW.out⟩
        rw [← HXD.out]
        have hf := HF.out
        rw [← HN.out] at hf
        exact hf.rest_if hn64.2 _ (by have := HN.out; omega)
     · have e : i = J := by omega
       subst e
       obtain ⟨A5, c5, rfl⟩ := HF.out.shape
       obtain ⟨n, HN⟩ : ∃ n : Nat, Hid (xs.length = n) := ⟨_, hide rfl⟩
       have hn0 : n = 0 := by have := HN.out; omega
       subst hn0
       rw [HN.out] at HF ⊢
       rw [HHX.out] at HRES HOUT
       clear HF HXD HMX HBM HDR HDL
       go_wp2_with (first
        | (refine wpList_load_blk rfl 104 _ rfl g4 rfl _ _ HB6.out 8 101 rfl (by rw [u32s_len, HHL.out]; exact size_a8) ?_)
        | (refine wpList_alloc_blk rfl 25 rfl _ zero_hash ?_; intro w12 hb12 hw12 hs12; have HB5 := hide hb12; have HB6 := hide (HB.out.below hw12 HB.out.lt); have HW6 := hide (HW.out.trans (hw12.mono HW.out.size)); have HR6 := hide (HR.out.below hw12 HR.out.lt); have hg5z := HB.out.lt; clear hb12 hw12 HB HW HR))
       obtain ⟨g5, hg5⟩ : ∃ n, wr.heap.size = n := ⟨_, rfl⟩
       rw [hg5] at HB5 hg5z ⊢
       obtain ⟨AV, HAV⟩ : ∃ x, Hid (Value.agg (u32s H1).toArray = x) := ⟨_, hide rfl⟩
       rw [HAV.out]
       go_loopw [47] (fun v47 wr => ∃ i : Nat, i ≤ 8 ∧ v47 = .int .i64 i ∧ Blk wr g5 25 (u8s (outP H1 i)) ∧ Blk wr gr 25 (u8s (List.replicate 32 0)) ∧ Below w.heap.size w wr) (fun v47 _ => 8 - (intOf v47).toNat)
       case atStart => exact ⟨0, by omega, rfl, HB5.out, HR6.out, HW6.out⟩
       case round =>
        obtain ⟨i, hi, rfl, hblk, hres, hw⟩ := hrel
        clear HB5 HB6 HW6 HR6
        have HB := hide hblk
        have HR := hide hres
        have HW := hide hw
        clear hblk hres hw
        have HOL := hide (outP_len H1 i HHL.out hi)
        by_cases hi8 : i < 8
        · have HOS := hide (outP_step H1 i HHL.out hi8)
          obtain ⟨X1, HX1⟩ : ∃ x, Hid (H1.getD i 0 = x) := ⟨_, hide rfl⟩
          have hX1 : 0 ≤ X1 ∧ X1 < 4294967296 := by
           refine HOUT.out X1 ?_
           rw [← HX1.out, List.getD_eq_getElem?_getD, List.getElem?_eq_getElem (by rw [HHL.out]; exact hi8)]
           exact List.getElem_mem _
          obtain ⟨PX, HPX⟩ : ∃ x, Hid (putF X1 4 = x) := ⟨_, hide rfl⟩
          have HPL := hide (show PX.length = 4 by rw [← HPX.out]; exact putF_len4 _)
          obtain ⟨O1, HO1⟩ : ∃ x, Hid (outP H1 i = x) := ⟨_, hide rfl⟩
          rw [HX1.out, HPX.out, HO1.out] at HOS
          rw [HO1.out] at HB HOL
          have i8 : (i : Int) < 8 := by omega
          go_upto_region 13 with (first
           | (refine wpList_index_u32s _ _ rfl H1 i HAV.out.symm rfl rfl HHL.out hi8 X1 HX1.out ?_))
          refine wp_region_held_drew (S := fun w' => Below w.heap.size w w') (by kernel_rfl) HW.out.drew (fun hHeld => ?_)
          replace HB := hide (Blk.drew HB.out)
          replace HR := hide (Blk.drew HR.out)
          refine take_e 51 (i := 0) (v := (.int .i64 (i : Int))) rfl (by kernel_rfl) (Or.inl ⟨by kernel_rfl, fun w' hS => exec_move _ rfl _ rfl⟩) hHeld ?_
          try simp only [Act.put, s1_, s2_, s3_]
          refine take_e 52 (i := 1) (v := (.int .i64 (4 * (i : Int)))) rfl (by kernel_rfl) (Or.inl ⟨by kernel_rfl, fun w' hS => exec_i64_mul _ _ _ rfl _ _ _ rfl rfl ((IntWalk.i64_in _ (by omega)).trans rfl)⟩) hHeld ?_
          try simp only [Act.put, s1_, s2_, s3_]
          refine take_e 53 (i := 2) (v := (.slice (some ⟨g5, 4 * i, none⟩) (32 - 4 * i) (32 - 4 * i))) rfl (by kernel_rfl) (Or.inl ⟨by kernel_rfl, fun w' hS => exec_hash_from _ _ rfl g5 (4 * i) _ (by omega) rfl rfl (by omega)⟩) hHeld ?_
          try simp only [Act.put, s1_, s2_, s3_]
          refine take_e 54 (i := 3) (v := (.int .u32 X1)) rfl (by kernel_rfl) (Or.inl ⟨by kernel_rfl, fun w' hS => exec_move _ rfl _ rfl⟩) hHeld ?_
          try simp only [Act.put, s1_, s2_, s3_]
          refine take_e 55 (i := 4) (v := (.int .i64 X1)) rfl (by kernel_rfl) (Or.inl ⟨by kernel_rfl, fun w' hS => exec_u32_int _ rfl X1 rfl hX1.1 hX1.2⟩) hHeld ?_
          try simp only [Act.put, s1_, s2_, s3_]
          refine wpAnyH_ready (rs := [5]) (by kernel_rfl) (by simp) (AllReadyH.cons rfl (fun K hK => ?_) AllReadyH.nil)
          rw [if_pos (by kernel_rfl)]
          try go_simp
          refine (Put_any X1 4 _ (by omega) (by omega)).mono ?_
          rintro e wc ⟨pv, rfl, ho, hb⟩
          rw [HPX.out] at ho
          have HPV := hide ho.reads
          have HX := hide (hHeld.trans (hb.mono (by have := hHeld.size; omega)))
          replace HB := hide (HB.out.below hb HB.out.lt)
          replace HR := hide (HR.out.below hb HR.out.lt)
          clear hb ho
          refine hK.out _ _ HX.out (fun hHeld => ?_)
          clear HX hK K
          try simp only [Act.put, s1_, s2_, s3_]
          refine wpAnyH_ready (rs := [6]) (by kernel_rfl) (by simp) (AllReadyH.cons rfl (fun K hK => ?_) AllReadyH.nil)
          rw [if_pos (by kernel_rfl)]
          refine wp_copy_blkD 57 rfl _ _ rfl g5 (4 * i) _ _ rfl _ PX _ rfl HPV.out (by rw [HPL.out]; omega) (by rw [HPL.out]; omega) _ _ HB.out (by rw [u8s_len, u8s_len, HPL.out, HOL.out]; omega) ?_
          intro wp hbp hgp hsp
          rw [HOS.out] at hbp
          have HX := hide (hHeld.grown hgp (by have := hHeld.size; omega) (by intro k hk; simp at hk; omega))
          replace HR := hide (HR.out.grown hgp (by intro h; injection h with h; omega))
          replace HB := hide hbp
          clear hbp hgp hsp
          refine hK.out _ _ HX.out (fun hHeld => ?_)
          clear HX hK K
          try simp only [Act.put, s1_, s2_, s3_]
          refine wpAnyH_done (by kernel_rfl) ?_ _
          replace HW := hide hHeld
          clear hHeld
          go_wp2_with fail
          go_roundw
          case measure => simp [intOf]; omega
          case rel => exact ⟨i + 1, by omega, by go_num, HB.out, HR.out, HW.out⟩
        · have e : i = 8 := by omega
          subst e
          rw [outP_all H1 HHL.out, HRES.out] at HB HOL
          go_wp2_with (first
           | (refine wpList_load_blk rfl 25 _ rfl g5 rfl _ _ HB.out 32 5 rfl (by rw [u8s_len, HOL.out]; exact size_hash) ?_)
           | (refine wpList_store_blk rfl 25 _ _ rfl gr 0 (u8s RES) rfl rfl _ _ HR.out (by rw [u8s_len, u8s_len, HOL.out]; simp) (by rw [u8s_len, HOL.out]; exact size_hash) (u8s_one _) ?_; intro w7 hb7 hg7 hs7; rw [lset_all _ _ (by rw [u8s_len, u8s_len, HOL.out]; rfl)] at hb7; have HR2 := hide hb7; have HW2 := hide (HW.out.grown hg7 HW.out.size (by intro k hk; simp at hk; omega)); clear hb7 hg7))
          refine bodyPost_ret (v := .agg (u8s RES).toArray) (results_cell_row rfl _ _ gr 25 _ (0, 0) _ rfl HR2.out Tryd.underlying25 rfl (by rw [List.size_toArray, u8s_len, HOL.out]; exact size_hash)) rfl ?_
          exact ⟨rfl, HW2.out⟩
end Go.Proofs.YthdjgebbjogmiaaDoor
