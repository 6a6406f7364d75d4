/- What a hash begins with: its eight words, the rounds' numbers, a new one. No condition.
A hash on its way in its block: reads, writes; a row's rest as a view. No condition.
(*Sha).Write on a new hash: its whole blocks are mixed in, what is left is kept. Condition: the bytes lie below the hash, at most 2^46. -/
import Derived.Test.YthdjgebbjogmiaaDoorMix
import Derived.Test.YthdjgebbjogmiaaDoorJoin28
set_option linter.unusedVariables false
set_option linter.unusedSimpArgs false
namespace Go.Proofs.YthdjgebbjogmiaaDoor
open Go Go.RowKit

def iv : List Int := [1779033703, 3144134277, 1013904242, 2773480762, 1359893119, 2600822924, 528734635, 1541459225]
def kT : List Int := [1116352408, 1899447441, 3049323471, 3921009573, 961987163, 1508970993, 2453635748, 2870763221, 3624381080, 310598401, 607225278, 1426881987, 1925078388, 2162078206, 2614888103, 3248222580, 3835390401, 4022224774, 264347078, 604807628, 770255983, 1249150122, 1555081692, 1996064986, 2554220882, 2821834349, 2952996808, 3210313671, 3336571891, 3584528711, 113926993, 338241895, 666307205, 773529912, 1294757372, 1396182291, 1695183700, 1986661051, 2177026350, 2456956037, 2730485921, 2820302411, 3259730800, 3345764771, 3516065817, 3600352804, 4094571909, 275423344, 430227734, 506948616, 659060556, 883997877, 958139571, 1322822218, 1537002063, 1747873779, 1955562222, 2024104815, 2227730452, 2361852424, 2428436474, 2756734187, 3204031479, 3329325298]
theorem iv_len : iv.length = 8 := rfl
theorem kT_len : kT.length = 64 := rfl
def kParts : Array (Nat × Operand) := #[(0, .const (.int .u32 1116352408)), (1, .const (.int .u32 1899447441)), (2, .const (.int .u32 3049323471)), (3, .const (.int .u32 3921009573)), (4, .const (.int .u32 961987163)), (5, .const (.int .u32 1508970993)), (6, .const (.int .u32 2453635748)), (7, .const (.int .u32 2870763221)), (8, .const (.int .u32 3624381080)), (9, .const (.int .u32 310598401)), (10, .const (.int .u32 607225278)), (11, .const (.int .u32 1426881987)), (12, .const (.int .u32 1925078388)), (13, .const (.int .u32 2162078206)), (14, .const (.int .u32 2614888103)), (15, .const (.int .u32 3248222580)), (16, .const (.int .u32 3835390401)), (17, .const (.int .u32 4022224774)), (18, .const (.int .u32 264347078)), (19, .const (.int .u32 604807628)), (20, .const (.int .u32 770255983)), (21, .const (.int .u32 1249150122)), (22, .const (.int .u32 1555081692)), (23, .const (.int .u32 1996064986)), (24, .const (.int .u32 2554220882)), (25, .const (.int .u32 2821834349)), (26, .const (.int .u32 2952996808)), (27, .const (.int .u32 3210313671)), (28, .const (.int .u32 3336571891)), (29, .const (.int .u32 3584528711)), (30, .const (.int .u32 113926993)), (31, .const (.int .u32 338241895)), (32, .const (.int .u32 666307205)), (33, .const (.int .u32 773529912)), (34, .const (.int .u32 1294757372)), (35, .const (.int .u32 1396182291)), (36, .const (.int .u32 1695183700)), (37, .const (.int .u32 1986661051)), (38, .const (.int .u32 2177026350)), (39, .const (.int .u32 2456956037)), (40, .const (.int .u32 2730485921)), (41, .const (.int .u32 2820302411)), (42, .const (.int .u32 3259730800)), (43, .const (.int .u32 3345764771)), (44, .const (.int .u32 3516065817)), (45, .const (.int .u32 3600352804)), (46, .const (.int .u32 4094571909)), (47, .const (.int .u32 275423344)), (48, .const (.int .u32 430227734)), (49, .const (.int .u32 506948616)), (50, .const (.int .u32 659060556)), (51, .const (.int .u32 883997877)), (52, .const (.int .u32 958139571)), (53, .const (.int .u32 1322822218)), (54, .const (.int .u32 1537002063)), (55, .const (.int .u32 1747873779)), (56, .const (.int .u32 1955562222)), (57, .const (.int .u32 2024104815)), (58, .const (.int .u32 2227730452)), (59, .const (.int .u32 2361852424)), (60, .const (.int .u32 2428436474)), (61, .const (.int .u32 2756734187)), (62, .const (.int .u32 3204031479)), (63, .const (.int .u32 3329325298))]
def kVals : List (Nat × Value) := [(0, .int .u32 1116352408), (1, .int .u32 1899447441), (2, .int .u32 3049323471), (3, .int .u32 3921009573), (4, .int .u32 961987163), (5, .int .u32 1508970993), (6, .int .u32 2453635748), (7, .int .u32 2870763221), (8, .int .u32 3624381080), (9, .int .u32 310598401), (10, .int .u32 607225278), (11, .int .u32 1426881987), (12, .int .u32 1925078388), (13, .int .u32 2162078206), (14, .int .u32 2614888103), (15, .int .u32 3248222580), (16, .int .u32 3835390401), (17, .int .u32 4022224774), (18, .int .u32 264347078), (19, .int .u32 604807628), (20, .int .u32 770255983), (21, .int .u32 1249150122), (22, .int .u32 1555081692), (23, .int .u32 1996064986), (24, .int .u32 2554220882), (25, .int .u32 2821834349), (26, .int .u32 2952996808), (27, .int .u32 3210313671), (28, .int .u32 3336571891), (29, .int .u32 3584528711), (30, .int .u32 113926993), (31, .int .u32 338241895), (32, .int .u32 666307205), (33, .int .u32 773529912), (34, .int .u32 1294757372), (35, .int .u32 1396182291), (36, .int .u32 1695183700), (37, .int .u32 1986661051), (38, .int .u32 2177026350), (39, .int .u32 2456956037), (40, .int .u32 2730485921), (41, .int .u32 2820302411), (42, .int .u32 3259730800), (43, .int .u32 3345764771), (44, .int .u32 3516065817), (45, .int .u32 3600352804), (46, .int .u32 4094571909), (47, .int .u32 275423344), (48, .int .u32 430227734), (49, .int .u32 506948616), (50, .int .u32 659060556), (51, .int .u32 883997877), (52, .int .u32 958139571), (53, .int .u32 1322822218), (54, .int .u32 1537002063), (55, .int .u32 1747873779), (56, .int .u32 1955562222), (57, .int .u32 2024104815), (58, .int .u32 2227730452), (59, .int .u32 2361852424), (60, .int .u32 2428436474), (61, .int .u32 2756734187), (62, .int .u32 3204031479), (63, .int .u32 3329325298)]
theorem built_k : Tryd.prog.built 102 kVals = some (u32s kT).toArray := by kernel_rfl
theorem size_a64 : (Tryd.prog.info? 102).map (·.size) = some 64 := by kernel_rfl
section
variable {o : Oper} {a : Act} {w : World} {Q : Exit → Act → World → Prop} {ops : Array Oper} {rest : List Oper}
theorem wpList_build_k (hgd : o.guard = none) (ho : o.op = .build 102 kParts) (h : wpList Tryd.prog ops Q rest (a.put o.dst (.agg (u32s kT).toArray)) w) : wpList Tryd.prog ops Q (o :: rest) a w := by
 have hm : (kParts.map fun (i, x) => (i, a.eval x)).toList = kVals := by simp [kParts, kVals, Act.eval]
 exact wpList_build hgd _ kParts ho (by rw [hm, built_k]; rfl) (by rw [hm, built_k]; exact h)
end
set_option maxRecDepth 100000
theorem begin_any (w : World) : Calls Tryd.prog 107 #[] w fun e w' => e = .returned (.agg (u32s iv).toArray) ∧ Below w.heap.size w w' := by
 go_enter Tryd.func107, Tryd.ntmps107
 go_wp2_with (first
  | (refine wpList_alloc_blk rfl 104 rfl _ zero_a8 ?_; intro w2 hb2 hw2 hs2; have HB := hide hb2; have HW := hide hw2; clear hb2 hw2)
  | (refine wpList_build_a8 rfl _ _ _ _ _ _ _ _ rfl 1779033703 3144134277 1013904242 2773480762 1359893119 2600822924 528734635 1541459225 rfl rfl rfl rfl rfl rfl rfl rfl ?_)
  | (refine wpList_store_blk rfl 104 _ _ rfl w.heap.size 0 (u32s iv) rfl rfl _ _ HB.out (by simp [u32s_len, iv_len]) (by rw [u32s_len, iv_len]; exact size_a8) (u32s_one _) ?_; intro w7 hb7 hg7 hs7; rw [lset_all _ _ (by rw [u32s_len, u32s_len]; rfl)] at hb7; have HB2 := hide hb7; have HW2 := hide (HW.out.grown hg7 (by have := HW.out.size; omega) (by intro k hk; simp at hk; omega)); clear hb7 hg7))
 refine bodyPost_ret (v := .agg (u32s iv).toArray) (results_cell_row rfl _ _ w.heap.size 104 _ (0, 0) _ rfl HB2.out Tryd.underlying104 rfl (by rw [List.size_toArray, u32s_len, iv_len]; exact size_a8)) rfl ?_
 exact ⟨rfl, HW2.out⟩
theorem table_any (w : World) : Calls Tryd.prog 108 #[] w fun e w' => e = .returned (.agg (u32s kT).toArray) ∧ Below w.heap.size w w' := by
 go_enter Tryd.func108, Tryd.ntmps108
 go_wp2_with (first
  | (refine wpList_alloc_blk rfl 102 rfl _ zero_a64 ?_; intro w2 hb2 hw2 hs2; have HB := hide hb2; have HW := hide hw2; clear hb2 hw2)
  | (refine wpList_build_k rfl rfl ?_)
  | (refine wpList_store_blk rfl 102 _ _ rfl w.heap.size 0 (u32s kT) rfl rfl _ _ HB.out (by simp [u32s_len, kT_len]) (by rw [u32s_len, kT_len]; exact size_a64) (u32s_one _) ?_; intro w7 hb7 hg7 hs7; rw [lset_all _ _ (by rw [u32s_len, u32s_len]; rfl)] at hb7; have HB2 := hide hb7; have HW2 := hide (HW.out.grown hg7 (by have := HW.out.size; omega) (by intro k hk; simp at hk; omega)); clear hb7 hg7))
 refine bodyPost_ret (v := .agg (u32s kT).toArray) (results_cell_row rfl _ _ w.heap.size 102 _ (0, 0) _ rfl HB2.out Tryd.underlying102 rfl (by rw [List.size_toArray, u32s_len, kT_len]; exact size_a64)) rfl ?_
 exact ⟨rfl, HW2.out⟩
theorem rounds_ref (w : World) : Calls Tryd.prog 86 #[] w fun e w' => e = .returned (.agg (u32s kT).toArray) ∧ Below w.heap.size w w' := by
 go_enter Tryd.func86, Tryd.ntmps86
 go_wp2_with (first
  | (refine wpList_alloc_blk rfl 102 rfl _ zero_a64 ?_; intro w2 hb2 hw2 hs2; have HB := hide hb2; have HW := hide hw2; clear hb2 hw2)
  | (refine wpList_build_k rfl rfl ?_)
  | (refine wpList_store_blk rfl 102 _ _ rfl w.heap.size 0 (u32s kT) rfl rfl _ _ HB.out (by simp [u32s_len, kT_len]) (by rw [u32s_len, kT_len]; exact size_a64) (u32s_one _) ?_; intro w7 hb7 hg7 hs7; rw [lset_all _ _ (by rw [u32s_len, u32s_len]; rfl)] at hb7; have HB2 := hide hb7; have HW2 := hide (HW.out.grown hg7 (by have := HW.out.size; omega) (by intro k hk; simp at hk; omega)); clear hb7 hg7))
 refine bodyPost_ret (v := .agg (u32s kT).toArray) (results_cell_row rfl _ _ w.heap.size 102 _ (0, 0) _ rfl HB2.out Tryd.underlying102 rfl (by rw [List.size_toArray, u32s_len, kT_len]; exact size_a64)) rfl ?_
 exact ⟨rfl, HW2.out⟩
/-- A hash on its way, in block g: its words, the rounds' numbers, what is left, how many bytes there were. -/
def shaCells (h ks : List Int) (left : Value) (n : Int) : List Value := u32s h ++ (u32s ks ++ [left, .int .i64 n])
def ShaB (w : World) (g : Nat) (h ks : List Int) (left : Value) (n : Int) : Prop := Blk w g 126 (shaCells h ks left n)
theorem built_sha : Tryd.prog.built 126 [(0, .agg (u32s iv).toArray), (1, .agg (u32s kT).toArray)] = some (shaCells iv kT (.slice none 0 0) 0).toArray := by kernel_rfl
theorem wpList_build_sha {o : Oper} {a : Act} {w : World} {Q : Exit → Act → World → Prop} {ops : Array Oper} {rest : List Oper} (hgd : o.guard = none) (x y : Operand) (ho : o.op = .build 126 #[(0, x), (1, y)]) (hx : a.eval x = .agg (u32s iv).toArray) (hy : a.eval y = .agg (u32s kT).toArray)
 (h : wpList Tryd.prog ops Q rest (a.put o.dst (.agg (shaCells iv kT (.slice none 0 0) 0).toArray)) w) : wpList Tryd.prog ops Q (o :: rest) a w := by
 have hm : ((#[(0, x), (1, y)] : Array (Nat × Operand)).map fun (i, x) => (i, a.eval x)).toList = [(0, .agg (u32s iv).toArray), (1, .agg (u32s kT).toArray)] := by simp [hx, hy]
 exact wpList_build hgd _ _ ho (by rw [hm, built_sha]; rfl) (by rw [hm, built_sha]; exact h)
theorem wpList_box_sha {o : Oper} {a : Act} {w : World} {Q : Exit → Act → World → Prop} {ops : Array Oper} {rest : List Oper} (x : Operand) (ho : o.op = .box 126 x) (cs : List Value) (hx : a.eval x = .agg cs.toArray) (hgd : o.guard = none)
 (h : ∀ w', Blk w' w.heap.size 126 cs → Below w.heap.size w w' → w'.heap.size = w.heap.size + 1 → wpList Tryd.prog ops Q rest (a.put o.dst (.pointer (some ⟨w.heap.size, 0, none⟩))) w') : wpList Tryd.prog ops Q (o :: rest) a w :=
 Great.wpList_boxTo hgd _ x ho _ rfl _ rfl cs.toArray (by rw [hx]; rfl) (h _ (Blk.new w _ _) ((Below.refl _ _).alloc (Nat.le_refl _) _) (by simp))
theorem New_any (w : World) : Calls Tryd.prog 100 #[] w fun e w' => ∃ g, e = .returned (.pointer (some ⟨g, 0, none⟩)) ∧ w.heap.size ≤ g ∧ w'.heap.size = g + 1 ∧ ShaB w' g iv kT (.slice none 0 0) 0 ∧ Below w.heap.size w w' := by
 obtain ⟨IV, HIV⟩ : ∃ x, Hid (Value.agg (u32s iv).toArray = x) := ⟨_, hide rfl⟩
 obtain ⟨KT, HKT⟩ : ∃ x, Hid (Value.agg (u32s kT).toArray = x) := ⟨_, hide rfl⟩
 obtain ⟨SH, HSH⟩ : ∃ x, Hid (shaCells iv kT (.slice none 0 0) 0 = x) := ⟨_, hide rfl⟩
 go_enter Tryd.func100, Tryd.ntmps100
 go_wp2_with fail
 refine (begin_any _).mono ?_
 rintro e w1 ⟨rfl, hb1⟩
 have HB1 := hide hb1
 clear hb1
 rw [HIV.out]
 go_wp2_with fail
 refine (table_any _).mono ?_
 rintro e w2 ⟨rfl, hb2⟩
 have HB2 := hide (HB1.out.trans (hb2.mono HB1.out.size))
 clear hb2 HB1
 rw [HKT.out]
 go_wp2_with (first
  | (refine wpList_build_sha rfl _ _ rfl HIV.out.symm HKT.out.symm ?_; rw [HSH.out])
  | (refine wpList_box_sha _ rfl SH rfl rfl ?_; intro w3 hb3 hw3 hs3; have HX := hide hb3; have HW := hide hw3; clear hb3 hw3))
 refine bodyPost_ret (results_tmp rfl _ _ _) rfl ⟨_, rfl, HB2.out.size, hs3, ?_, HB2.out.trans (HW.out.mono HB2.out.size)⟩
 unfold ShaB
 rw [HSH.out]
 exact HX.out
end Go.Proofs.YthdjgebbjogmiaaDoor

namespace Go.Proofs.YthdjgebbjogmiaaDoor
open Go Go.RowKit
set_option maxRecDepth 100000

section
variable {h ks h' : List Int} {l l' : Value} {n m : Int} {w w' : World} {g : Nat}
theorem sc_len (hh : h.length = 8) (hk : ks.length = 64) : (shaCells h ks l n).length = 74 := by simp [shaCells, u32s_len, hh, hk]
theorem sc_tail (hh : h.length = 8) (hk : ks.length = 64) (j : Nat) : (shaCells h ks l n)[72 + j]? = [l, Value.int .i64 n][j]? := by
 unfold shaCells
 rw [List.getElem?_append_right (by rw [u32s_len]; omega), List.getElem?_append_right (by rw [u32s_len, u32s_len]; omega), u32s_len, u32s_len, hh, hk]
 congr 1
 omega
theorem sc_ks (hh : h.length = 8) (hk : ks.length = 64) (j : Nat) (u : Value) (hu : (u32s ks)[j]? = some u) : (shaCells h ks l n)[8 + j]? = some u := by
 have hj := (List.getElem?_eq_some_iff.1 hu).1
 unfold shaCells
 rw [List.getElem?_append_right (by rw [u32s_len]; omega), u32s_len, hh, Nat.add_sub_cancel_left, List.getElem?_append_left hj]
 exact hu
theorem sc_h (j : Nat) (u : Value) (hu : (u32s h)[j]? = some u) : (shaCells h ks l n)[0 + j]? = some u := by
 have hj := (List.getElem?_eq_some_iff.1 hu).1
 unfold shaCells
 rw [Nat.zero_add, List.getElem?_append_left hj]
 exact hu
theorem sc_setN (hh : h.length = 8) (hk : ks.length = 64) : (shaCells h ks l n).set 73 (.int .i64 m) = shaCells h ks l m := by
 unfold shaCells
 rw [List.set_append_right _ _ (by rw [u32s_len]; omega), List.set_append_right _ _ (by rw [u32s_len, u32s_len]; omega), u32s_len, u32s_len, hh, hk]
 rfl
theorem sc_setLeft (hh : h.length = 8) (hk : ks.length = 64) : (shaCells h ks l n).set 72 l' = shaCells h ks l' n := by
 unfold shaCells
 rw [List.set_append_right _ _ (by rw [u32s_len]; omega), List.set_append_right _ _ (by rw [u32s_len, u32s_len]; omega), u32s_len, u32s_len, hh, hk]
 rfl
theorem sc_putH (hh : h.length = 8) (hh' : h'.length = 8) : lset (shaCells h ks l n) 0 (u32s h') = shaCells h' ks l n := by
 refine List.ext_getElem? fun j => ?_
 rw [lset_get _ _ _ _ (by unfold shaCells; rw [List.length_append, u32s_len, u32s_len]; omega)]
 unfold shaCells
 rw [u32s_len, hh']
 by_cases hj : 0 ≤ j ∧ j < 0 + 8
 · rw [if_pos hj, List.getElem?_append_left (by rw [u32s_len]; omega)]; rfl
 · rw [if_neg hj, List.getElem?_append_right (l₁ := u32s h) (by rw [u32s_len]; omega), List.getElem?_append_right (l₁ := u32s h') (by rw [u32s_len]; omega), u32s_len, u32s_len, hh, hh']
theorem ShaB.cLeft (hS : ShaB w g h ks l n) (hh : h.length = 8) (hk : ks.length = 64) : w.cell? ⟨g, 72, none⟩ = some l := (Blk.cell hS 72).trans (sc_tail hh hk 0)
theorem ShaB.cN (hS : ShaB w g h ks l n) (hh : h.length = 8) (hk : ks.length = 64) : w.cell? ⟨g, 73, none⟩ = some (.int .i64 n) := (Blk.cell hS 73).trans (sc_tail hh hk 1)
theorem ShaB.rK (hS : ShaB w g h ks l n) (hh : h.length = 8) (hk : ks.length = 64) : w.rangeAt g 8 (u32s ks) := blk_range hS 8 _ (sc_ks hh hk)
theorem ShaB.rH (hS : ShaB w g h ks l n) : w.rangeAt g 0 (u32s h) := blk_range hS 0 _ sc_h
variable {o : Oper} {a : Act} {K : Act → World → Prop} {Q : Exit → Act → World → Prop} {ops : Array Oper} {rest : List Oper}
theorem wpList_sha_putN (hgd : o.guard = none) (x y : Operand) (ho : o.op = .store 3 x y) (hx : a.eval x = .pointer (some ⟨g, 73, none⟩)) (hS : ShaB w g h ks l n) (hh : h.length = 8) (hk : ks.length = 64) (hy : a.eval y = .int .i64 m)
 (hc : ∀ w', ShaB w' g h ks l m → w.grownBy w' (some g) → w'.heap.size = w.heap.size → wpList Tryd.prog ops Q rest (a.put o.dst undef) w') : wpList Tryd.prog ops Q (o :: rest) a w :=
 wpList_plain hgd fun _ hK => by
  have hg := grown_setCells (g := g) [Value.int .i64 m] w 73
  refine wp_store_one _ x y ho g 73 hx _ hy (by rw [hS.cN hh hk]; rfl) (Blk.frozen hS _) rfl (by kernel_rfl) (hK _ _ (hc _ ?_ hg.1 hg.2))
  have := Blk.set_ hS 73 (.int .i64 m)
  rwa [sc_setN hh hk] at this
theorem wpList_sha_putLeft (hgd : o.guard = none) (x y : Operand) (ho : o.op = .store 26 x y) (hx : a.eval x = .pointer (some ⟨g, 72, none⟩)) (hS : ShaB w g h ks l n) (hh : h.length = 8) (hk : ks.length = 64) (hy : a.eval y = l') (h1 : l'.oneCell' = true)
 (hc : ∀ w', ShaB w' g h ks l' n → w.grownBy w' (some g) → w'.heap.size = w.heap.size → wpList Tryd.prog ops Q rest (a.put o.dst undef) w') : wpList Tryd.prog ops Q (o :: rest) a w :=
 wpList_plain hgd fun _ hK => by
  have hg := grown_setCells (g := g) [l'] w 72
  refine wp_store_one _ x y ho g 72 hx _ hy (by rw [hS.cLeft hh hk]; rfl) (Blk.frozen hS _) h1 (by kernel_rfl) (hK _ _ (hc _ ?_ hg.1 hg.2))
  have := Blk.set_ hS 72 l'
  rwa [sc_setLeft hh hk] at this
theorem wp_sha_loadHD (d : Nat) (hd : o.dst = some d) (x : Operand) (ho : o.op = .load 104 x) (hx : a.eval x = .pointer (some ⟨g, 0, none⟩)) (hS : ShaB w g h ks l n) (hh : h.length = 8) (hc : K (a.put (some d) (.agg (u32s h).toArray)) w) : o.wp Tryd.prog a w K Q :=
 wp_load_mid _ x ho g 0 hx _ _ hS.rH Tryd.underlying104 rfl (by rw [u32s_len, hh]; exact size_a8) (by rw [hd]; exact hc)
theorem wpList_sha_loadH (hgd : o.guard = none) (x : Operand) (ho : o.op = .load 104 x) (hx : a.eval x = .pointer (some ⟨g, 0, none⟩)) (hS : ShaB w g h ks l n) (hh : h.length = 8) (hc : wpList Tryd.prog ops Q rest (a.put o.dst (.agg (u32s h).toArray)) w) : wpList Tryd.prog ops Q (o :: rest) a w :=
 wpList_plain hgd fun _ hK => wp_load_mid _ x ho g 0 hx _ _ hS.rH Tryd.underlying104 rfl (by rw [u32s_len, hh]; exact size_a8) (hK _ _ hc)
theorem wp_sha_putHD (hd : o.dst = none) (x y : Operand) (ho : o.op = .store 104 x y) (hx : a.eval x = .pointer (some ⟨g, 0, none⟩)) (hy : a.eval y = .agg (u32s h').toArray) (hS : ShaB w g h ks l n) (hh : h.length = 8) (hk : ks.length = 64) (hh' : h'.length = 8)
 (hc : ∀ w', ShaB w' g h' ks l n → w.grownBy w' (some g) → w'.heap.size = w.heap.size → K a w') : o.wp Tryd.prog a w K Q :=
 wp_store_blkD _ x y ho hd g 0 (u32s h') hx hy _ _ hS (by rw [u32s_len, sc_len hh hk]; omega) (by rw [u32s_len, hh']; exact size_a8) (u32s_one _) fun w' a1 a2 a3 => hc w' (by rw [sc_putH hh hh'] at a1; exact a1) a2 a3
theorem exec_field_sha (x : Operand) (k off : Nat) (ho : o.op = .fieldAddr 126 x k) (g : Nat) (hx : a.eval x = .pointer (some ⟨g, 0, none⟩)) (hk : [0, 8, 72, 73][k]? = some off) : (execOp a.eval o).run Tryd.prog w = .ok (.value (.pointer (some ⟨g, off, none⟩))) w := by
 unfold execOp
 simp only [ho, hx]
 have h7 : k < 4 := by have := (List.getElem?_eq_some_iff.1 hk).1; simpa using this
 obtain rfl | rfl | rfl | rfl : k = 0 ∨ k = 1 ∨ k = 2 ∨ k = 3 := by omega
 all_goals (simp at hk; subst hk; go_simp)
theorem exec_to64 (x : Operand) (ho : o.op = .slice 26 x none (some (.const (.int .i64 64))) none) (b of n c : Nat) (hx : a.eval x = .slice (some ⟨b, of, none⟩) n c) (hc : 64 ≤ c) : (execOp a.eval o).run Tryd.prog w = .ok (.value (.slice (some ⟨b, of, none⟩) 64 c)) w := by
 unfold execOp
 simp only [ho, hx]
 have h64 : (64 : Int) ≤ (c : Int) := by omega
 go_simp
end
/-- A row's rest: a view of a block that is not g. -/
def Suf (w : World) (g : Nat) (v : Value) (xs : List Int) : Prop :=
 (v = .slice none 0 0 ∧ xs = []) ∨ ∃ (r o c : Nat) (cur : List Int) (f : Nat × Nat), v = .slice (some ⟨r, o, none⟩) xs.length c ∧ r ≠ g ∧ BlkF w r 5 (u8s cur) f ∧ xs.length ≤ c ∧ c ≤ maxLen ∧ (cur.drop o).take xs.length = xs
section
variable {w w' : World} {g : Nat} {v : Value} {xs : List Int}
theorem Suf.of_row {base : Nat} (h : RowB w base v xs) (hg : g < base) : Suf w g v xs := by
 rcases h with ⟨rfl, rfl⟩ | ⟨r, cap, cur, f, rfl, h1, hB, _, hl, hc, _, _, ht⟩
 · exact .inl ⟨rfl, rfl⟩
 · exact .inr ⟨r, 0, cap, cur, f, rfl, by omega, hB, hl, hc, by rw [List.drop_zero]; exact ht⟩
theorem Suf.of_old {base : Nat} (h : RowB w base v xs) (hg : w.heap.size ≤ g) : Suf w g v xs := by
 rcases h with ⟨rfl, rfl⟩ | ⟨r, cap, cur, f, rfl, h1, hB, _, hl, hc, _, _, ht⟩
 · exact .inl ⟨rfl, rfl⟩
 · exact .inr ⟨r, 0, cap, cur, f, rfl, by have := hB.lt; omega, hB, hl, hc, by rw [List.drop_zero]; exact ht⟩
theorem Suf.reads (h : Suf w g v xs) : Bs w w.heap.size v xs := by
 rcases h with ⟨rfl, rfl⟩ | ⟨r, o, cap, cur, f, rfl, _, hB, hl, hc, ht⟩
 · exact Bs.nil_ _ _
 · refine ⟨_, cap, rfl, hl, hc, by rw [u8s_len]; omega, fun _ => ⟨r, o, rfl, hB.lt, fun j u hu => ?_⟩⟩
   rw [hB.cell]
   have hj : j < xs.length := by
    have := (List.getElem?_eq_some_iff.1 hu).1
    rwa [u8s_len] at this
   rw [← hu, ← ht]
   unfold u8s
   rw [List.getElem?_map, List.getElem?_map, List.getElem?_take_of_lt hj, List.getElem?_drop]
theorem Suf.keptB (h : Suf w g v xs) (hb : Below w.heap.size w w') : Suf w' g v xs := by
 rcases h with h | ⟨r, o, cap, cur, f, h1, h2, hB, h3⟩
 · exact .inl h
 · exact .inr ⟨r, o, cap, cur, f, h1, h2, hB.below hb hB.lt, h3⟩
theorem Suf.kept (h : Suf w g v xs) (hb : w.grownBy w' (some g)) : Suf w' g v xs := by
 rcases h with h | ⟨r, o, cap, cur, f, h1, h2, hB, h3⟩
 · exact .inl h
 · exact .inr ⟨r, o, cap, cur, f, h1, h2, hB.grown hb (by intro h; injection h with h; exact h2 h), h3⟩
theorem Suf.shape (h : Suf w g v xs) : ∃ A c, v = .slice A xs.length c := by
 rcases h with ⟨rfl, rfl⟩ | ⟨r, o, cap, cur, f, rfl, h⟩
 · exact ⟨none, 0, rfl⟩
 · exact ⟨_, _, rfl⟩
theorem Suf.one (h : Suf w g v xs) : v.oneCell' = true := by
 obtain ⟨A, c, rfl⟩ := h.shape
 rfl
/-- 64 bytes at least: where they lie. -/
theorem Suf.pos (h : Suf w g v xs) (hl : 0 < xs.length) : ∃ r o c, v = .slice (some ⟨r, o, none⟩) xs.length c ∧ xs.length ≤ c ∧ c ≤ maxLen ∧ Suf w g (.slice (some ⟨r, o, none⟩) xs.length c) xs := by
 have h0 := h
 rcases h with ⟨rfl, rfl⟩ | ⟨r, o, cap, cur, f, rfl, h1, h2, h3, h4, _⟩
 · simp at hl
 · exact ⟨r, o, cap, rfl, h3, h4, h0⟩
theorem Suf.rest {r o c : Nat} (h : Suf w g (.slice (some ⟨r, o, none⟩) xs.length c) xs) (hl : 64 ≤ xs.length) (n : Nat) (hn : n + 64 = xs.length) : Suf w g (.slice (some ⟨r, o + 64, none⟩) n (c - 64)) (xs.drop 64) := by
 rcases h with ⟨h, _⟩ | ⟨r', o', cap, cur, f, e, h1, hB, h3, h4, h5⟩
 · cases h
 · injection e with e1 e2 e3
   injection e1 with e1
   injection e1 with e1 e4
   subst e1 e3 e4
   have hl2 : (xs.drop 64).length = n := by rw [List.length_drop]; omega
   refine .inr ⟨r, o + 64, c - 64, cur, f, by rw [hl2], h1, hB, by omega, by omega, ?_⟩
   rw [hl2]
   conv => rhs; rw [← h5]
   rw [List.drop_take, List.drop_drop]
   congr 1
   omega
theorem Suf.rest_if {r o c : Nat} (h : Suf w g (.slice (some ⟨r, o, none⟩) xs.length c) xs) (hl : 64 ≤ xs.length) (n : Nat) (hn : n + 64 = xs.length) : Suf w g (.slice (if c = 64 then some ⟨r, o, none⟩ else some ⟨r, o + 64, none⟩) n (c - 64)) (xs.drop 64) := by
 by_cases hc : c = 64
 · rw [if_pos hc]
   rcases h with ⟨h, _⟩ | ⟨r', o', cap, cur, f, e, h1, hB, h3, h4, h5⟩
   · cases h
   · injection e with e1 e2 e3
     injection e1 with e1
     injection e1 with e1 e4
     subst e1 e3 e4
     have e0 : xs.drop 64 = [] := List.drop_eq_nil_of_le (by omega)
     have en : n = 0 := by omega
     subst en
     rw [e0]
     exact .inr ⟨r, o, c - 64, cur, f, rfl, h1, hB, by simp, by omega, by simp⟩
 · rw [if_neg hc]
   exact h.rest hl n hn
end
end Go.Proofs.YthdjgebbjogmiaaDoor

namespace Go.Proofs.YthdjgebbjogmiaaDoor
open Go Go.RowKit

set_option maxRecDepth 100000
set_option maxHeartbeats 4000000 in
theorem Write_new (h b : List Int) (g : Nat) (v : Value) (w : World) (hh : h.length = 8) (hS : ShaB w g h kT (.slice none 0 0) 0) (hv : Bs w g v b) (hb : Bytes b) (hn : b.length ≤ 70368744177664) :
 Calls Tryd.prog 101 #[.pointer (some ⟨g, 0, none⟩), v] w fun e w' => e = .returned (.int .i64 (b.length : Int)) ∧ ∃ lv, ShaB w' g (blocksN kT h b (b.length / 64)) kT lv (b.length : Int) ∧ Suf w' g lv (b.drop (64 * (b.length / 64))) ∧ Below g w w' := by
 have HH := hide hh
 have HV := hide hv
 have HBY := hide hb
 have HS := hide hS
 have c73 := hS.cN hh rfl
 have hgz := Blk.lt hS
 obtain ⟨A, cp, rfl, h1, h2, h3⟩ := hv.open_
 have HBL := hide (fun i => blocksN_len kT h b hh i)
 have HBM := hide (fun i => show mixF kT (blocksN kT h b i) ((b.drop (64 * i)).take 64) = blocksN kT h b (i + 1) from mixF_take _ _ _)
 have HDR := hide (fun i => show (b.drop (64 * i)).drop 64 = b.drop (64 * (i + 1)) by rw [List.drop_drop]; congr 1)
 have HDL := hide (fun i => show (b.drop (64 * i)).length = b.length - 64 * i from List.length_drop)
 obtain ⟨L, HL⟩ : ∃ n : Nat, Hid (b.length = n) := ⟨_, hide rfl⟩
 rw [HL.out] at h1 hn HV ⊢
 simp only [HL.out] at HDL
 clear hS hv hb hh h3
 go_enter Tryd.func101, Tryd.ntmps101
 go_wp2_with (first
  | (refine wpList_sha_putN (m := (L : Int)) rfl _ _ rfl rfl HS.out HH.out rfl rfl ?_; intro w1 hs1 hg1 hz1; have HS1 := hide hs1; have c72 := hs1.cLeft HH.out rfl; have HW1 := hide ((Below.refl g w).grown hg1 (by omega) (by intro k hk; simp at hk; omega)); have HV1 := hide (HV.out.below HW1.out (Nat.le_refl _)); clear hs1 hg1 HS HV c73)
  | (at_builtin; refine wpList_append_B rfl _ _ rfl (g + 1) _ [] rfl HO2.out _ _ b rfl HV2.out HBY.out (by rw [HL.out]; simp; omega) (by omega) ?_; intro v22 w3 ho3 hg3; rw [List.nil_append] at ho3; have HO3 := hide ho3; have HS3 := hide (show ShaB w3 g h kT (.slice none 0 0) L from Blk.grown HS2.out hg3 (by intro he; have := (HO2.out.base_ g he.symm).1; omega)); have HW3 := hide (HW2.out.grown hg3 (by omega) (fun k hk => by have := (HO2.out.base_ k hk).1; omega)); clear ho3 hg3 HS2 HV2 HW2 HO2)
  | (at_builtin; refine wpList_append_B rfl _ _ rfl (g + 1) (.slice none 0 0) [] rfl (RowB.nil_ _ _) w1.heap.size (.slice none 0 0) [] rfl (Bs.nil_ _ _) (by intro x hx; cases hx) (by simp) (by omega) ?_; intro v20 w2 ho2 hg2; rw [List.nil_append] at ho2; have HO2 := hide ho2; have hz2 := hg2.size; have HS2 := hide (show ShaB w2 g h kT (.slice none 0 0) L from Blk.grown HS1.out hg2 (by simp [Value.ownBlock])); have HW2 := hide (HW1.out.grown hg2 (by omega) (by intro k hk; simp [Value.ownBlock] at hk)); have HV2 := hide (HV1.out.below ((Below.refl g w1).grown hg2 (by omega) (by intro k hk; simp [Value.ownBlock] at hk)) (Nat.le_refl _)); clear ho2 hg2 HS1 HV1 HW1 c72))
 have HF3 := hide (Suf.of_row HO3.out (Nat.lt_succ_self g))
 clear HO3
 go_loopw [5] (fun v5 wr => ∃ i : Nat, i ≤ L / 64 ∧ Suf wr g v5 (b.drop (64 * i)) ∧ ShaB wr g (blocksN kT h b i) kT (.slice none 0 0) L ∧ Below g w wr) (fun v5 _ => (match v5 with | .slice _ n _ => n | _ => 0))
 case atStart => exact ⟨0, by omega, HF3.out, HS3.out, HW3.out⟩
 case round =>
  obtain ⟨i, hi, hf, hs, hw⟩ := hrel
  clear HF3 HS3 HW3
  have HHL := hide (HBL.out i)
  have HHN := hide (HBL.out (i + 1))
  have HMX := hide (HBM.out i)
  have HXD := hide (HDR.out i)
  have hxl := HDL.out i
  have HF := hide hf
  have HS := hide hs
  have HW := hide hw
  clear hf hs hw
  by_cases hi64 : i < L / 64
  · obtain ⟨xs, HXS⟩ : ∃ x, Hid (b.drop (64 * i) = x) := ⟨_, hide rfl⟩
    obtain ⟨H, HHX⟩ : ∃ x, Hid (blocksN kT h b i = x) := ⟨_, hide rfl⟩
    obtain ⟨H2, HHY⟩ : ∃ x, Hid (blocksN kT h b (i + 1) = x) := ⟨_, hide rfl⟩
    rw [HXS.out] at HF HMX HXD hxl
    rw [HHX.out] at HS HMX HHL
    rw [HHY.out] at HMX HHN
    obtain ⟨r, o, c, rfl, hc1, hc2, hF⟩ := HF.out.pos (by omega)
    unfold maxLen at hc2
    replace HF := hide hF
    clear hF
    obtain ⟨n, HN⟩ : ∃ n : Nat, Hid (xs.length = n) := ⟨_, hide rfl⟩
    have hn64 : 64 ≤ n ∧ 64 ≤ xs.length := by have := HN.out; omega
    have HNX := HN
    rw [HN.out] at hc1 HF hxl ⊢
    have i64 : (64 : Int) ≤ (n : Int) := by omega
    have i65 : (64 : Int) ≤ (c : Int) := by omega
    go_upto_region 4 with fail
    refine wp_region_held_drew (S := fun w' => Below g w w') (by kernel_rfl) HW.out.drew (fun hHeld => ?_)
    replace HS := hide (show ShaB _ g H kT (.slice none 0 0) L from Blk.drew HS.out)
    replace HF := hide (Suf.keptB HF.out ((Below.refl _ _).drew))
    refine take_e 26 (i := 0) (v := (.pointer (some ⟨g, 0, none⟩))) rfl (by kernel_rfl) (Or.inl ⟨by kernel_rfl, fun w' hS => exec_move _ rfl _ rfl⟩) hHeld ?_
    try simp only [Act.put, s1_, s2_, s3_]
    refine take_e 27 (i := 1) (v := (.pointer (some ⟨g, 0, none⟩))) rfl (by kernel_rfl) (Or.inl ⟨by kernel_rfl, fun w' hS => exec_move _ rfl _ rfl⟩) hHeld ?_
    try simp only [Act.put, s1_, s2_, s3_]
    refine take_e 28 (i := 2) (v := (.pointer (some ⟨g, 0, none⟩))) rfl (by kernel_rfl) (Or.inl ⟨by kernel_rfl, fun w' hS => exec_nilCheck _ rfl _ rfl⟩) hHeld ?_
    try simp only [Act.put, s1_, s2_, s3_]
    refine take_e 29 (i := 3) (v := (.pointer (some ⟨g, 0, none⟩))) rfl (by kernel_rfl) (Or.inl ⟨by kernel_rfl, fun w' hS => exec_field_sha _ 0 0 rfl g rfl rfl⟩) hHeld ?_
    try simp only [Act.put, s1_, s2_, s3_]
    refine take_e 31 (i := 5) (v := (.pointer (some ⟨g, 0, none⟩))) rfl (by kernel_rfl) (Or.inl ⟨by kernel_rfl, fun w' hS => exec_move _ rfl _ rfl⟩) hHeld ?_
    try simp only [Act.put, s1_, s2_, s3_]
    refine take_e 32 (i := 6) (v := (.pointer (some ⟨g, 0, none⟩))) rfl (by kernel_rfl) (Or.inl ⟨by kernel_rfl, fun w' hS => exec_nilCheck _ rfl _ rfl⟩) hHeld ?_
    try simp only [Act.put, s1_, s2_, s3_]
    refine take_e 33 (i := 7) (v := (.pointer (some ⟨g, 8, none⟩))) rfl (by kernel_rfl) (Or.inl ⟨by kernel_rfl, fun w' hS => exec_field_sha _ 1 8 rfl g rfl rfl⟩) hHeld ?_
    try simp only [Act.put, s1_, s2_, s3_]
    refine take_e 34 (i := 8) (v := (.slice (some ⟨r, o, none⟩) n c)) rfl (by kernel_rfl) (Or.inl ⟨by kernel_rfl, fun w' hS => exec_move _ rfl _ rfl⟩) hHeld ?_
    try simp only [Act.put, s1_, s2_, s3_]
    refine take_e 35 (i := 9) (v := (.slice (some ⟨r, o, none⟩) 64 c)) rfl (by kernel_rfl) (Or.inl ⟨by kernel_rfl, fun w' hS => exec_to64 _ rfl r o n c rfl (by omega)⟩) hHeld ?_
    try simp only [Act.put, s1_, s2_, s3_]
    refine wpAnyH_ready (rs := [4]) (by kernel_rfl) (by simp) (AllReadyH.cons rfl (fun K hK => ?_) AllReadyH.nil)
    rw [if_pos (by kernel_rfl)]
    refine wp_sha_loadHD 30 rfl _ rfl rfl HS.out HHL.out ?_
    refine hK.out _ _ hHeld (fun hHeld => ?_)
    clear hK K
    try simp only [Act.put, s1_, s2_, s3_]
    refine wpAnyH_ready (rs := [10]) (by kernel_rfl) (by simp) (AllReadyH.cons rfl (fun K hK => ?_) AllReadyH.nil)
    rw [if_pos (by kernel_rfl)]
    try go_simp
    refine (mix_any H (xs.take 64) kT g 8 (.slice (some ⟨r, o, none⟩) 64 c) _ HHL.out rfl (by have := Bs.take HF.out.reads 64 (by omega); exact this) (by rw [List.length_take]; omega) (HS.out.rK HHL.out rfl) (Blk.lt HS.out)).mono ?_
    rintro e wc ⟨rfl, hb⟩
    rw [HMX.out]
    have HX := hide (hHeld.trans (hb.mono (by have := Blk.lt HS.out; omega)))
    replace HF := hide (HF.out.keptB hb)
    replace HS := hide (show ShaB wc g H kT (.slice none 0 0) L from Blk.below HS.out hb (Blk.lt HS.out))
    clear hb
    refine hK.out _ _ HX.out (fun hHeld => ?_)
    clear HX hK K
    try simp only [Act.put, s1_, s2_, s3_]
    refine take_e 37 (i := 11) (v := (.pointer (some ⟨g, 0, none⟩))) rfl (by kernel_rfl) (Or.inl ⟨by kernel_rfl, fun w' hS => exec_nilCheck _ rfl _ rfl⟩) hHeld ?_
    try simp only [Act.put, s1_, s2_, s3_]
    refine take_e 38 (i := 12) (v := (.pointer (some ⟨g, 0, none⟩))) rfl (by kernel_rfl) (Or.inl ⟨by kernel_rfl, fun w' hS => exec_field_sha _ 0 0 rfl g rfl rfl⟩) hHeld ?_
    try simp only [Act.put, s1_, s2_, s3_]
    refine wpAnyH_ready (rs := [13]) (by kernel_rfl) (by simp) (AllReadyH.cons rfl (fun K hK => ?_) AllReadyH.nil)
    rw [if_pos (by kernel_rfl)]
    refine wp_sha_putHD rfl _ _ rfl rfl rfl HS.out HHL.out rfl HHN.out ?_
    intro wp hbp hgp hsp
    have HX := hide (hHeld.grown hgp (by have := Blk.lt HS.out; omega) (by intro k hk; simp at hk; omega))
    replace HF := hide (HF.out.kept hgp)
    replace HS := hide hbp
    clear hbp hgp hsp
    refine hK.out _ _ HX.out (fun hHeld => ?_)
    clear HX hK K
    try simp only [Act.put]
    refine wpAnyH_done (by kernel_rfl) ?_ _
    replace HW := hide hHeld
    clear hHeld
    go_wp2_with fail
    go_roundw
    case measure => simp; omega
    case rel =>
     refine ⟨i + 1, by omega, ?_, by rw [HHY.out]; exact HS.out, HW.out⟩
     rw [← HXD.out]
     have hf := HF.out
     rw [← HN.out] at hf
     exact hf.rest_if hn64.2 _ (by have := HN.out; omega)
  · have e : i = L / 64 := by omega
    subst e
    obtain ⟨A5, c5, rfl⟩ := HF.out.shape
    have hlt : (b.drop (64 * (L / 64))).length < 64 := by omega
    obtain ⟨lv, HLV⟩ : ∃ x, Hid (Value.slice A5 (b.drop (64 * (L / 64))).length c5 = x) := ⟨_, hide rfl⟩
    have HONE := hide HF.out.one
    obtain ⟨m, HM⟩ : ∃ n : Nat, Hid ((b.drop (64 * (L / 64))).length = n) := ⟨_, hide rfl⟩
    rw [HM.out] at hlt HLV HF HONE ⊢
    have i64 : ¬ (64 : Int) ≤ (m : Int) := by omega
    go_wp2_with (first
     | (refine wpList_sha_putLeft rfl _ _ rfl rfl HS.out HHL.out rfl rfl HONE.out ?_; intro w5 hs5 hg5 hz5; have HS5 := hide hs5; have c73 := hs5.cN HHL.out rfl; have HW5 := hide (HW.out.grown hg5 (by have := Blk.lt HS.out; omega) (by intro k hk; simp at hk; omega)); have HF5 := hide (HF.out.kept hg5); clear hs5 hg5))
    refine bodyPost_ret (results_tmp rfl _ _ _) rfl ⟨rfl, _, HS5.out, HF5.out, HW5.out⟩
end Go.Proofs.YthdjgebbjogmiaaDoor
