/- dirs.fresh: an entry in new memory. Condition: literals of at most a million bytes.
caps.short: the key that a tag and a key make; rows of the call's own from a literal of rows. Condition: the table of powers of ten stands. -/
import Derived.Test.YthdjgebbjogmiaaDoorJoin18
import Derived.Test.YthdjgebbjogmiaaDoorJoin17
import Derived.Test.YthdjgebbjogmiaaDoorJoin4
import Derived.Test.YthdjgebbjogmiaaDoorJoin1
import Derived.Test.YthdjgebbjogmiaaDoorJoin12
set_option linter.unusedVariables false
set_option linter.unusedSimpArgs false
namespace Go.Proofs.YthdjgebbjogmiaaDoor
open Go Go.RowKit
set_option linter.unusedVariables false
set_option linter.unusedSimpArgs false
set_option maxRecDepth 100000
structure LenE (e : EntD) : Prop where
 rk : e.read.key.length = 16
 rf : e.read.fp.length = 32
structure LenW (e : EntD) : Prop where
 wk : e.write.key.length = 16
 wf : e.write.fp.length = 32
section
variable {e : EntD} {x y : Value}
theorem ent_lenL (h1 : LenE e) (h2 : LenW e) : (entC e x y).length = 108 := by
 simp [entC, cc_len x h1.rk h1.rf, cc_len y h2.wk h2.wf]
theorem ent_oneL (hx : x.oneCell' = true) (hy : y.oneCell' = true) : ∀ u ∈ entC e x y, u.oneCell' = true := fun u hu => by
 unfold entC at hu
 rcases List.mem_cons.1 hu with rfl | hu
 · rfl
 rcases List.mem_append.1 hu with hu | hu
 · exact cc_ones hx u hu
 rcases List.mem_append.1 hu with hu | hu
 · exact cc_ones hy u hu
 · obtain rfl := List.mem_singleton.1 hu
   rfl
end
section
variable {o : Oper} {a : Act} {w : World} {K : Act → World → Prop} {Q : Exit → Act → World → Prop} {g : Nat} {e : EntD} {u v : Value} {t : TypeId}
theorem wp_valueD (d : Nat) (hd : o.dst = some d) (v : Value) (h0 : (execOp a.eval o).run Tryd.prog w = .ok (.value v) w) (h : K (a.put (some d) v) w) : o.wp Tryd.prog a w K Q :=
 wp_value v h0 (by rw [hd]; exact h)
end
theorem RowB.pastE {w w' : World} {base g : Nat} {v : Value} {xs : List Int} {t : TypeId} {cs : List Value} (h : RowB w base v xs) (hk : Blk w g t cs) (ht : (t == 5) = false) (hg : w.grownBy w' (some g)) : RowB w' base v xs := by
 refine h.kept hg ?_
 rcases h with ⟨rfl, _⟩ | ⟨g', cap, cur, f, rfl, _, hb, _⟩
 · exact .inl rfl
 · refine .inr fun e => ?_
   simp [Value.ownBlock] at e
   subst e
   unfold BlkF at hb
   have hk' : w.heap[g']? = _ := hk
   rw [hb] at hk'
   injection hk' with hh
   injection hh with _ ht' _
   subst ht'
   cases ht
set_option maxHeartbeats 4000000
end Go.Proofs.YthdjgebbjogmiaaDoor

namespace Go.Proofs.YthdjgebbjogmiaaDoor
open Go Go.RowKit

set_option maxRecDepth 100000
set_option maxHeartbeats 4000000
theorem short_any (s : ByteArray) (k : List Int) (w : World) (hk : k.length = 16) (hb : Bytes k) (hs : s.size ≤ 1000) (ht : Tab w w.heap.size) :
 Calls Tryd.prog 50 #[.string s, .agg (u8s k).toArray] w fun e w' => e = .returned (.agg (u8s (keyF s k)).toArray) ∧ Below w.heap.size w w' := by
 have HK := hide hk
 have HBK := hide (show ∀ x ∈ [k], Bytes x from fun x hx => by simp at hx; subst hx; exact hb)
 have HLK := hide (show ∀ x ∈ [k], x.length ≤ 1000000 from fun x hx => by simp at hx; subst hx; omega)
 have HT := hide ht
 obtain ⟨RES, HRES⟩ : ∃ x, Hid (keyF s k = x) := ⟨_, hide rfl⟩
 have HRS := hide (show shortF (strB s) [k] = RES from HRES.out)
 have HRL := hide (show RES.length = 16 by rw [← HRES.out]; exact keyF_len _ _)
 obtain ⟨KV, HKV⟩ : ∃ x, Hid (Value.agg (u8s k).toArray = x) := ⟨_, hide rfl⟩
 rw [HRES.out, HKV.out]
 clear hk hb ht
 go_enter Tryd.func50, Tryd.ntmps50
 obtain ⟨g0, hg0⟩ : ∃ n, w.heap.size = n := ⟨_, rfl⟩
 go_wp2_with (first
  | (refine wpList_box_key _ rfl k HKV.out.symm rfl ?_; intro w1 hb1 hw1 hs1; rw [hg0] at hb1 ⊢; have HX1 := hide hb1; have HB1 := hide hw1; clear hb1 hw1)
  | (refine wpList_alloc_blk rfl 23 rfl _ zero_key ?_; intro w2 hb2 hw2 hs2; have hg2 : w1.heap.size = g0 + 1 := (by omega); rw [hg2] at hb2; try rw [hg2]; have HR2 := hide hb2; have HX2 := hide (HX1.out.below hw2 HX1.out.lt); have HB2 := hide (HB1.out.trans (hw2.mono HB1.out.size)); clear hb2 hw2 HX1 HB1)
  | (refine wpList_rows1 rfl _ rfl (.slice (some ⟨g0, 0, none⟩) 16 16) rfl rfl ?_; intro w3 hb3 hw3; have hg3 : w2.heap.size = g0 + 1 + 1 := (by omega); rw [hg3] at hb3; have HX3 := hide (HX2.out.below hw3 HX2.out.lt); have HV3 := hide (rows_one hb3 (HX3.out.reads HK.out (by omega))); have HR3 := hide (HR2.out.below hw3 HR2.out.lt); have HB3 := hide (HB2.out.trans (hw3.mono HB2.out.size)); clear hb3 hw3 HX2 HR2 HB2))
 refine (Short_any s _ [k] _ HV3.out HBK.out HLK.out (by simp) hs ((HT.out.below HB3.out (Nat.le_refl _)).more HB3.out.size)).mono ?_
 rintro e w4 ⟨rfl, hb4⟩
 rw [HRS.out]
 have HR4 := hide (HR3.out.below hb4 HR3.out.lt)
 have HB4 := hide (HB3.out.trans (hb4.mono HB3.out.size))
 clear hb4 HR3 HB3 HX3 HV3
 go_wp2_with (first
  | (refine wpList_store_blk rfl 23 _ _ rfl (g0 + 1) 0 (u8s RES) rfl rfl _ _ HR4.out (by rw [u8s_len, u8s_len, HRL.out]; simp) (by rw [u8s_len, HRL.out]; exact size_key) (u8s_one _) ?_; intro w7 hb7 hg7 hs7; rw [lset_all _ _ (by rw [u8s_len, u8s_len, HRL.out]; rfl)] at hb7; have HR7 := hide hb7; have HB7 := hide (HB4.out.grown hg7 (by have := HB4.out.size; omega) (by intro k hk; simp at hk; omega)); clear hb7 hg7))
 refine bodyPost_ret (v := .agg (u8s RES).toArray) (results_cell_row rfl _ _ (g0 + 1) 23 _ (0, 0) _ rfl HR7.out Tryd.underlying23 rfl (by rw [List.size_toArray, u8s_len, HRL.out]; exact size_key)) rfl ?_
 exact ⟨rfl, HB7.out⟩
end Go.Proofs.YthdjgebbjogmiaaDoor
