/- dirs.one: may there be such an entry? Condition: the table of powers of ten stands; literals of at most a million bytes.
Names compared: byte by byte. No condition but that they are bytes. -/
import Derived.Test.YthdjgebbjogmiaaDoorJoin13
import Derived.Test.YthdjgebbjogmiaaDoorJoin17
import Derived.Test.YthdjgebbjogmiaaDoorCapRO
import Derived.Test.YthdjgebbjogmiaaDoorCapValid
import Derived.Test.YthdjgebbjogmiaaDoorJoin18
import Derived.Deep.DeepCutAuto
import Derived.Test.YthdjgebbjogmiaaDoorJoin1
import Derived.Test.YthdjgebbjogmiaaDoorJoin3
import Derived.Test.YthdjgebbjogmiaaDoorJoin8
import Derived.Test.YthdjgebbjogmiaaDoorJoin9
import Derived.Lib.Bytes
set_option linter.unusedVariables false
set_option linter.unusedSimpArgs false
namespace Go.Proofs.YthdjgebbjogmiaaDoor
open Go Go.RowKit
set_option linter.unusedVariables false
set_option linter.unusedSimpArgs false
set_option maxRecDepth 100000
theorem roE_write {c : CapD} (h : writeF c = true) : roE c = 0 := by
 unfold roE
 rw [if_pos]
 unfold writeF at h
 unfold readF
 simp only [Bool.and_eq_true, Bool.or_eq_true, beq_iff_eq] at h
 rw [decide_eq_true (by simpa using h.1)]
 rcases h.2 with h2 | h2 <;> rw [h2] <;> decide
set_option maxHeartbeats 8000000
theorem one_any (e : EntD) (lr lw : Value) (w : World) (h : EntOk w w.heap.size e lr lw) (hr : e.read.lit.length ≤ 1000000) (hw : e.write.lit.length ≤ 1000000) (ht : Tab w w.heap.size) :
 Calls Tryd.prog 47 #[.agg (entC e lr lw).toArray] w fun r w' => r = .returned (.bool (oneB e)) ∧ Below w.heap.size w w' := by
 have HT := hide ht
 have HOK := hide h
 have HLEN := hide (ent_len h)
 have HONE := hide (ent_ones h)
 have HVR := hide (capV_of h.rWf.keyL h.rWf.fpL h.r1)
 have HVW := hide (capV_of h.wWf.keyL h.wWf.fpL h.w1)
 have HSZ := hide (show (Tryd.prog.info? 45).map (·.size) = some (entC e lr lw).length by rw [ent_len h]; exact size_ent)
 have HSR := hide (show (Tryd.prog.info? 28).map (·.size) = some (capCells e.read lr).length by rw [cc_len lr h.rWf.keyL h.rWf.fpL]; exact size_cap)
 have HSW := hide (show (Tryd.prog.info? 28).map (·.size) = some (capCells e.write lw).length by rw [cc_len lw h.wWf.keyL h.wWf.fpL]; exact size_cap)
 obtain ⟨r0, HR0⟩ : ∃ b, Hid (oneB e = b) := ⟨_, hide rfl⟩
 rw [HR0.out]
 obtain ⟨nm, HNM⟩ : ∃ s, Hid (strOfNums e.name = s) := ⟨_, hide rfl⟩
 have HNS := hide (show nm.size = e.name.length by rw [← HNM.out]; exact strOfNums_size _)
 obtain ⟨g1, HG⟩ : ∃ k, Hid (w.heap.size = k) := ⟨_, hide rfl⟩
 obtain ⟨cs, HCS⟩ : ∃ c, Hid (entC e lr lw = c) := ⟨_, hide rfl⟩
 rw [HCS.out] at HLEN HONE HSZ ⊢
 clear h ht
 go_enter Tryd.func47, Tryd.ntmps47
 go_upto_region 1 with (first
  | (refine wpList_st_box _ rfl cs rfl rfl ?_; intro w1 hb1 hw1 hs1; rw [HG.out] at hb1 hs1; try rw [HG.out]; have H1 := hide hb1; have HB := hide hw1; clear hb1 hw1))
 have HN0 := hide (show cs[0]? = some (.string nm) by rw [← HCS.out, ← HNM.out]; exact ent_name)
 have HH := hide (show cs[107]? = some (.bool e.has) by rw [← HCS.out]; exact ent_has HOK.out)
 have HRR := hide (fun (j : Nat) (u : Value) (hu : (capCells e.read lr)[j]? = some u) => show cs[1 + j]? = some u by rw [← HCS.out]; exact ent_read HOK.out j u hu)
 have HRW := hide (fun (j : Nat) (u : Value) (hu : (capCells e.write lw)[j]? = some u) => show cs[54 + j]? = some u by rw [← HCS.out]; exact ent_write HOK.out j u hu)
 have HONEB := hide (show r0 = (decide (1 ≤ e.name.length ∧ e.name.length ≤ 64) && (decide e.read.Valid && (!writeF e.read && (if e.has then (writeF e.write && sameF (roF e.write) e.read) else sameF e.write CapD.none_)))) by rw [← HR0.out]; rfl)
 have HWWF := hide (And.intro HOK.out.rWf HOK.out.wWf)
 have HRL := hide HOK.out.r1
 have HWL := hide HOK.out.w1
 rw [HG.out] at HRL HWL
 clear HOK HR0 HCS HNM
 by_cases hlen : 1 ≤ nm.size ∧ nm.size ≤ 64
 case neg =>
  have HF := hide (show r0 = false by rw [HONEB.out, decide_eq_false (by rw [← HNS.out]; exact hlen)]; rfl)
  by_cases h1 : nm.size < 1
  · have i1 : (nm.size : Int) < 1 := by omega
    go_wp2_with (first
     | go_skip
     | (refine wpList_st_get 9 _ rfl 0 rfl rfl H1.out _ Tryd.underlying9 rfl _ HN0.out ?_))
    go_ret
    exact ⟨by rw [HF.out]; rfl, HB.out⟩
  · have i1 : ¬ (nm.size : Int) < 1 := by omega
    have i2 : (64 : Int) < (nm.size : Int) := by omega
    go_wp2_with (first
     | go_skip
     | (refine wpList_st_get 9 _ rfl 0 rfl rfl H1.out _ Tryd.underlying9 rfl _ HN0.out ?_))
    go_ret
    exact ⟨by rw [HF.out]; rfl, HB.out⟩
 have i1 : ¬ (nm.size : Int) < 1 := by omega
 have i2 : ¬ (64 : Int) < (nm.size : Int) := by omega
 have HR1 := hide (show r0 = (decide e.read.Valid && (!writeF e.read && (if e.has then (writeF e.write && sameF (roF e.write) e.read) else sameF e.write CapD.none_))) by rw [HONEB.out, decide_eq_true (by rw [← HNS.out]; exact hlen)]; rfl)
 go_wp2_with (first
  | go_skip
  | (refine wpList_st_get 9 _ rfl 0 rfl rfl H1.out _ Tryd.underlying9 rfl _ HN0.out ?_)
  | (refine wpList_val_ rfl (exec_loadAll 28 _ rfl g1 1 rfl _ (capCells e.read lr) (blk_range H1.out 1 _ HRR.out) Tryd.underlying28 rfl HSR.out) ?_))
 refine (Valid_any e.read lr w1 HVR.out).mono ?_
 rintro _ w2 ⟨rfl, hb2⟩
 have hz1 := HB.out.size
 replace H1 := hide (H1.out.below hb2 H1.out.lt)
 replace HB := hide (HB.out.trans (hb2.mono hz1))
 clear hb2
 by_cases hv : e.read.Valid
 case neg =>
  rw [decide_eq_false hv]
  have HF := hide (show r0 = false by rw [HR1.out, decide_eq_false hv]; rfl)
  go_wp2_with go_skip
  go_ret
  exact ⟨by rw [HF.out]; rfl, HB.out⟩
 rw [decide_eq_true hv]
 have HR2 := hide (show r0 = (!writeF e.read && (if e.has then (writeF e.write && sameF (roF e.write) e.read) else sameF e.write CapD.none_)) by rw [HR1.out, decide_eq_true hv]; rfl)
 clear HR1 HONEB
 go_wp2_with (first
  | go_skip
  | (refine wpList_val_ rfl (exec_loadAll 28 _ rfl g1 1 rfl _ (capCells e.read lr) (blk_range H1.out 1 _ HRR.out) Tryd.underlying28 rfl HSR.out) ?_))
 refine (write_any e.read lr w2 HVR.out).mono ?_
 rintro _ w3 ⟨rfl, hb3⟩
 have hz2 := HB.out.size
 replace H1 := hide (H1.out.below hb3 H1.out.lt)
 replace HB := hide (HB.out.trans (hb3.mono hz2))
 clear hb3
 obtain ⟨q3, HQ3⟩ : ∃ q, Hid (writeF e.read = q) := ⟨_, hide rfl⟩
 rw [HQ3.out] at HR2 ⊢
 rcases q3 with _ | _
 case true =>
  have HF := hide (show r0 = false by rw [HR2.out]; rfl)
  go_wp2_with go_skip
  go_ret
  exact ⟨by rw [HF.out]; rfl, HB.out⟩
 obtain ⟨q4, HQ4⟩ : ∃ q, Hid (e.has = q) := ⟨_, hide rfl⟩
 rw [HQ4.out] at HR2 HH
 have hz3 := HB.out.size
 rcases q4 with _ | _
 case false =>
  go_wp2_with (first
   | go_skip
   | (refine wpList_st_get 4 _ rfl 107 rfl rfl H1.out _ Tryd.underlying4 rfl _ HH.out ?_)
   | (refine wpList_st_build 28 _ rfl rfl (capCells CapD.none_ (.slice none 0 0)) built_cap ?_)
   | (refine wpList_val_ rfl (exec_loadAll 28 _ rfl g1 54 rfl _ (capCells e.write lw) (blk_range H1.out 54 _ HRW.out) Tryd.underlying28 rfl HSW.out) ?_))
  refine (same_caps e.write CapD.none_ lw (.slice none 0 0) w3 HWWF.out.2.keyL HWWF.out.2.fpL rfl rfl ((HWL.out.below HB.out (by rw [HG.out]; exact Nat.le_refl _)).more (by have := HG.out; omega)) (Bs.nil_ _ _) HWWF.out.2.litB CapD.none_wf.litB).mono ?_
  rintro _ w4 ⟨rfl, hb4⟩
  replace HB := hide (HB.out.trans (hb4.mono hz3))
  clear hb4
  have HF := hide (show r0 = sameF e.write CapD.none_ by rw [HR2.out]; rfl)
  go_wp2_with go_skip
  go_ret
  exact ⟨by rw [HF.out]; rfl, HB.out⟩
 have HT3 := hide ((HT.out.below HB.out (Nat.le_refl _)).more hz3)
 have HWL3 := hide (show Bs w3 w3.heap.size lw e.write.lit from (HWL.out.below HB.out (by rw [HG.out]; exact Nat.le_refl _)).more (by have := HG.out; omega))
 go_wp2_with (first
  | go_skip
  | (refine wpList_st_get 4 _ rfl 107 rfl rfl H1.out _ Tryd.underlying4 rfl _ HH.out ?_)
  | (refine wpList_val_ rfl (exec_loadAll 28 _ rfl g1 54 rfl _ (capCells e.write lw) (blk_range H1.out 54 _ HRW.out) Tryd.underlying28 rfl HSW.out) ?_))
 refine (ReadOnly_any e.write lw w3 HWWF.out.2 HWL3.out hw HT3.out).mono ?_
 rintro _ w4 ⟨l4, rfl, hl4, hb4⟩
 have HRO := hide (roF_wf HWWF.out.2)
 have HVO := hide (capV_of HRO.out.keyL HRO.out.fpL hl4)
 have HL4 := hide hl4
 have HLO := hide hl4.one
 replace H1 := hide (H1.out.below hb4 H1.out.lt)
 replace HB := hide (HB.out.trans (hb4.mono hz3))
 have hz4 := HB.out.size
 obtain ⟨g3, HG3⟩ : ∃ k, Hid (w4.heap.size = k) := ⟨_, hide rfl⟩
 obtain ⟨ro, HROE⟩ : ∃ c, Hid (roF e.write = c) := ⟨_, hide rfl⟩
 rw [HROE.out] at HRO HVO HL4 HR2 ⊢
 rw [show capV ro l4 = .agg (capCells ro l4).toArray from rfl]
 have HSO := hide (show (Tryd.prog.info? 28).map (·.size) = some (capCells ro l4).length by rw [cc_len l4 HRO.out.keyL HRO.out.fpL]; exact size_cap)
 have hg13 : g1 < g3 := by have := H1.out.lt; have := HG3.out; omega
 clear hl4 hb4 HWL3 HT3
 obtain ⟨ee, HEE⟩ : ∃ x, Hid (roE e.write = x) := ⟨_, hide rfl⟩
 rw [HEE.out]
 obtain ⟨q5, HQ5⟩ : ∃ q, (ee == 0) = q := ⟨_, rfl⟩
 have HGET := hide (fun (w' : World) (h : Blk w' g3 28 (capCells ro l4)) => blk_range h 0 (capCells ro l4) (fun j u hu => by rw [Nat.zero_add]; exact hu))
 go_upto_region 6 with (first
  | (refine wpList_alloc_blk rfl 28 rfl _ zero_cap ?_; intro w5 hb5 hw5 hs5; rw [HG3.out] at hb5; try rw [HG3.out]; have H3 := hide hb5; replace H1 := hide (H1.out.below hw5 H1.out.lt); replace HL4 := hide (HL4.out.below hw5 (Nat.le_refl _)); replace HB := hide (HB.out.trans (hw5.mono hz4)); clear hb5 hw5)
  | (refine wpList_st_putAll _ _ _ rfl rfl rfl H3.out (capCells ro l4) rfl (by rw [cc_len l4 HRO.out.keyL HRO.out.fpL, cc_len _ rfl rfl]) HSO.out (cc_ones HLO.out) ?_; intro w6 hb6 hg6 hs6; replace H3 := hide hb6; replace H1 := hide (H1.out.grown hg6 (by intro e; injection e; omega)); replace HL4 := hide (HL4.out.below ((Below.refl w4.heap.size _).grown hg6 (by omega) (by intro k hk; injection hk; have := HG3.out; omega)) (Nat.le_refl _)); replace HB := hide (HB.out.grown hg6 (by have := HB.out.size; omega) (by intro k hk; injection hk; have := HG3.out; omega)); clear hb6 hg6))
 try simp only [Act.put]
 have hz6 := HB.out.size
 rcases q5 with _ | _
 case false =>
  have HF := hide (show r0 = false by
   rw [HR2.out]
   cases hw5 : writeF e.write
   · rfl
   · have := roE_write hw5
     rw [HEE.out] at this
     rw [this] at HQ5
     cases HQ5)
  go_wp2_with go_skip
  go_ret
  exact ⟨by rw [HF.out]; rfl, HB.out⟩
 go_wp2_with (first
  | go_skip
  | (refine wpList_val_ rfl (exec_loadAll 28 _ rfl g1 54 rfl _ (capCells e.write lw) (blk_range H1.out 54 _ HRW.out) Tryd.underlying28 rfl HSW.out) ?_))
 refine (write_any e.write lw w6 HVW.out).mono ?_
 rintro _ w7 ⟨rfl, hb7⟩
 replace H1 := hide (H1.out.below hb7 H1.out.lt)
 replace H3 := hide (H3.out.below hb7 H3.out.lt)
 replace HL4 := hide (HL4.out.below hb7 (by omega))
 replace HB := hide (HB.out.trans (hb7.mono hz6))
 have hz7 := HB.out.size
 have hs7 := hb7.size
 clear hb7
 obtain ⟨q7, HQ7⟩ : ∃ q, Hid (writeF e.write = q) := ⟨_, hide rfl⟩
 rw [HQ7.out] at HR2 ⊢
 rcases q7 with _ | _
 case false =>
  have HF := hide (show r0 = false by rw [HR2.out]; rfl)
  go_wp2_with go_skip
  go_ret
  exact ⟨by rw [HF.out]; rfl, HB.out⟩
 have HF := hide (show r0 = sameF ro e.read by rw [HR2.out]; rfl)
 have HSRO := hide (show (Tryd.prog.info? 28).map (·.size) = some (capCells ro l4).length from HSO.out)
 go_wp2_with (first
  | go_skip
  | (refine wpList_st_all 28 _ rfl rfl rfl H3.out _ Tryd.underlying28 rfl HSO.out ?_)
  | (refine wpList_val_ rfl (exec_loadAll 28 _ rfl g1 1 rfl _ (capCells e.read lr) (blk_range H1.out 1 _ HRR.out) Tryd.underlying28 rfl HSR.out) ?_))
 refine (same_caps ro e.read l4 lr w7 HRO.out.keyL HRO.out.fpL HWWF.out.1.keyL HWWF.out.1.fpL (HL4.out.more (by omega)) ((HRL.out.below HB.out (by rw [HG.out]; exact Nat.le_refl _)).more (by have := HG.out; omega)) HRO.out.litB HWWF.out.1.litB).mono ?_
 rintro _ w8 ⟨rfl, hb8⟩
 replace HB := hide (HB.out.trans (hb8.mono hz7))
 clear hb8
 go_wp2_with go_skip
 go_ret
 exact ⟨by rw [HF.out]; rfl, HB.out⟩
end Go.Proofs.YthdjgebbjogmiaaDoor

namespace Go.Proofs.YthdjgebbjogmiaaDoor
open Go Go.RowKit
set_option linter.unusedVariables false
set_option maxRecDepth 100000
def u8L (xs : List Int) : List UInt8 := xs.map fun n => UInt8.ofNat n.toNat
theorem name_toList (xs : List Int) : (strOfNums xs).toList = u8L xs := by
 rw [Lib.strOfNums_toList]
 rfl
theorem less_u8L : ∀ (xs ys : List Int), Bytes xs → Bytes ys → Op.bytesLess (u8L xs) (u8L ys) = ltL xs ys
 | [], [], _, _ => rfl
 | [], _ :: _, _, _ => rfl
 | _ :: _, [], _, _ => rfl
 | x :: xs, y :: ys, hx, hy => by
  have h1 := hx x List.mem_cons_self
  have h2 := hy y List.mem_cons_self
  have e1 : (UInt8.ofNat x.toNat).toNat = x.toNat := by simp [UInt8.toNat_ofNat]; omega
  have e2 : (UInt8.ofNat y.toNat).toNat = y.toNat := by simp [UInt8.toNat_ofNat]; omega
  have l1 : UInt8.ofNat x.toNat < UInt8.ofNat y.toNat ↔ x < y := by rw [UInt8.lt_iff_toNat_lt, e1, e2]; omega
  have l2 : UInt8.ofNat x.toNat = UInt8.ofNat y.toNat ↔ x = y := by rw [← UInt8.toNat_inj, e1, e2]; omega
  have ih := less_u8L xs ys (fun z hz => hx z (List.mem_cons_of_mem _ hz)) (fun z hz => hy z (List.mem_cons_of_mem _ hz))
  show (decide (UInt8.ofNat x.toNat < UInt8.ofNat y.toNat) || (UInt8.ofNat x.toNat == UInt8.ofNat y.toNat && Op.bytesLess (u8L xs) (u8L ys))) = (decide (x < y) || (decide (x = y) && ltL xs ys))
  rw [ih]
  congr 1
  · exact decide_eq_decide.2 l1
  · congr 1
    by_cases h : x = y
    · rw [decide_eq_true h]; exact beq_iff_eq.2 (l2.2 h)
    · rw [decide_eq_false h]; exact beq_eq_false_iff_ne.2 (fun e => h (l2.1 e))
theorem name_less {xs ys : List Int} (hx : Bytes xs) (hy : Bytes ys) : Op.bytesLess (strOfNums xs).toList (strOfNums ys).toList = ltL xs ys := by
 rw [name_toList, name_toList, less_u8L xs ys hx hy]
theorem name_eq {xs ys : List Int} (hx : Bytes xs) (hy : Bytes ys) : ((strOfNums xs).toList == (strOfNums ys).toList) = decide (xs = ys) := by
 by_cases h : xs = ys
 · subst h; rw [decide_eq_true rfl]; exact beq_self_eq_true _
 · rw [decide_eq_false h]
   have hne : ¬ strOfNums xs = strOfNums ys := fun e => h ((strOf_inj hx hy).1 e)
   exact str_ne hne
section
variable {o : Oper} {a : Act} {w : World}
theorem exec_subG (x y : Operand) (t' : TypeId) (ho : o.op = .binOp .sub 3 x y t') (p q z : Int) (hx : a.eval x = .int .i64 p) (hy : a.eval y = .int .i64 q) (hz : p - q = z) (hb : -9223372036854775808 ≤ p - q ∧ p - q ≤ 9223372036854775807) : (execOp a.eval o).run Tryd.prog w = .ok (.value (.int .i64 z)) w := by
 subst hz
 obtain ⟨h1, h2⟩ := hb
 unfold execOp
 simp only [ho, hx, hy]
 go_simp
 exact IntWalk.i64_in _ (by omega)
theorem exec_geq_name (x y : Operand) (t : TypeId) (ho : o.op = .binOp .geq 9 x y t) (xs ys : List Int) (hx : a.eval x = .string (strOfNums xs)) (hy : a.eval y = .string (strOfNums ys)) (hbx : Bytes xs) (hby : Bytes ys) (q : Bool) (hq : ltL xs ys = !q) :
 (execOp a.eval o).run Tryd.prog w = .ok (.value (.bool q)) w := by
 unfold execOp
 have hr : (Op.stringOp .geq (strOfNums xs) (strOfNums ys)).run Tryd.prog w = .ok (.bool q) w := by
  show (Pure.pure (Value.bool (!(Op.bytesLess (strOfNums xs).toList (strOfNums ys).toList))) : Sem Value).run Tryd.prog w = _
  rw [name_less hbx hby, hq, Bool.not_not]
  rfl
 simp only [ho, hx, hy, Sem.run_bind]
 have hg : (eqGuard .geq 9 x y (.string (strOfNums xs)) (.string (strOfNums ys))).run Tryd.prog w = .ok () w := rfl
 simp only [hg, Result.andThen_ok]
 show ((Op.stringOp .geq (strOfNums xs) (strOfNums ys)).run Tryd.prog w).andThen _ = _
 rw [hr]
 rfl
theorem exec_leq_name (x y : Operand) (t : TypeId) (ho : o.op = .binOp .leq 9 x y t) (xs ys : List Int) (hx : a.eval x = .string (strOfNums xs)) (hy : a.eval y = .string (strOfNums ys)) (hbx : Bytes xs) (hby : Bytes ys) (q : Bool) (hq : ltL ys xs = !q) :
 (execOp a.eval o).run Tryd.prog w = .ok (.value (.bool q)) w := by
 unfold execOp
 have hr : (Op.stringOp .leq (strOfNums xs) (strOfNums ys)).run Tryd.prog w = .ok (.bool q) w := by
  show (Pure.pure (Value.bool (Op.bytesLess (strOfNums xs).toList (strOfNums ys).toList || ((strOfNums xs).toList == (strOfNums ys).toList))) : Sem Value).run Tryd.prog w = _
  rw [name_less hbx hby, name_eq hbx hby]
  have : (ltL xs ys || decide (xs = ys)) = q := by
   by_cases he : xs = ys
   · subst he
     rw [ltL_irrefl] at hq ⊢
     rw [decide_eq_true rfl]
     cases q
     · cases hq
     · rfl
   · rcases ltL_total he with h | h
     · rw [ltL_asymm h] at hq
       rw [h]
       cases q
       · cases hq
       · rfl
     · rw [h] at hq
       rw [ltL_asymm h, decide_eq_false he]
       cases q
       · rfl
       · cases hq
  rw [this]
  rfl
 simp only [ho, hx, hy, Sem.run_bind]
 have hg : (eqGuard .leq 9 x y (.string (strOfNums xs)) (.string (strOfNums ys))).run Tryd.prog w = .ok () w := rfl
 simp only [hg, Result.andThen_ok]
 show ((Op.stringOp .leq (strOfNums xs) (strOfNums ys)).run Tryd.prog w).andThen _ = _
 rw [hr]
 rfl
theorem exec_neq_name (x y : Operand) (t : TypeId) (ho : o.op = .binOp .neq 9 x y t) (xs ys : List Int) (hx : a.eval x = .string (strOfNums xs)) (hy : a.eval y = .string (strOfNums ys)) (hbx : Bytes xs) (hby : Bytes ys) (q : Bool) (hq : decide (xs = ys) = !q) :
 (execOp a.eval o).run Tryd.prog w = .ok (.value (.bool q)) w := by
 have he := name_eq hbx hby
 rw [hq] at he
 unfold execOp
 simp only [ho, hx, hy]
 go_simp
 try simp [he]
 try (cases q <;> simp_all)
theorem exec_neqB2 (x y : Operand) (t' : TypeId) (ho : o.op = .binOp .neq 4 x y t') (p q : Bool) (hx : a.eval x = .bool p) (hy : a.eval y = .bool q) (r : Bool) (hr : (p != q) = r) : (execOp a.eval o).run Tryd.prog w = .ok (.value (.bool r)) w := by
 subst hr
 unfold execOp
 simp only [ho, hx, hy]
 go_simp
 try (cases p <;> cases q <;> rfl)
end
end Go.Proofs.YthdjgebbjogmiaaDoor
