/- A number as so many bytes: the plain law.
The hash of a text, as a function of its own: blocks, what is set behind the text, the words' bytes. No program in sight.
What a hash begins with: its eight words, the rounds' numbers, a new one. No condition. -/
import Derived.Test.YthdjgebbjogmiaaDoorJoin1
import Derived.Test.YthdjgebbjogmiaaDoorJoin9
import Derived.Test.YthdjgebbjogmiaaDoorMix
namespace Go.Proofs.YthdjgebbjogmiaaDoor
open Go Go.RowKit
set_option maxRecDepth 100000

def putN (N W : Nat) : List Int := (List.range W).map fun j => ((N / 256 ^ (W - 1 - j) % 256 : Nat) : Int)
def wid (width : Int) : Nat := (min (max width 0) 8).toNat
def putF (n width : Int) : List Int := putN (max 0 n).toNat (wid width)
theorem putN_len (N W : Nat) : (putN N W).length = W := by simp [putN]
theorem putN_get (N W j : Nat) (hj : j < W) : (putN N W).getD j 0 = ((N / 256 ^ (W - 1 - j) % 256 : Nat) : Int) := by
 rw [List.getD_eq_getElem?_getD, List.getElem?_eq_getElem (by rw [putN_len]; exact hj)]
 simp [putN]
theorem putN_bytes (N W : Nat) : Bytes (putN N W) := fun x hx => by
 obtain ⟨j, _, rfl⟩ := List.mem_map.1 hx
 have := Nat.mod_lt (N / 256 ^ (W - 1 - j)) (show 0 < 256 by omega)
 omega
theorem wid_le (width : Int) : wid width ≤ 8 := by unfold wid; omega
theorem putF_bytes (n width : Int) : Bytes (putF n width) := putN_bytes _ _
end Go.Proofs.YthdjgebbjogmiaaDoor

namespace Go.Proofs.YthdjgebbjogmiaaDoor
open Go Go.RowKit
set_option maxRecDepth 100000

theorem getD_take_lt (b : List Int) {n j : Nat} (h : j < n) : (b.take n).getD j 0 = b.getD j 0 := by
 rw [List.getD_eq_getElem?_getD, List.getD_eq_getElem?_getD, List.getElem?_take, if_pos h]
theorem wordN_take (b : List Int) {i : Nat} (h : i < 16) : wordN (b.take 64) i = wordN b i := by
 unfold wordN
 rw [getD_take_lt b (by omega), getD_take_lt b (by omega), getD_take_lt b (by omega), getD_take_lt b (by omega)]
theorem schedN_take (b : List Int) : ∀ i, schedN (b.take 64) i = schedN b i
 | 0 => rfl
 | i + 1 => by
  rw [schedN, schedN, schedN_take b i]
  split
  · rw [wordN_take b (by omega)]
  · rfl
theorem mixF_take (ks h b : List Int) : mixF ks h (b.take 64) = mixF ks h b := by
 unfold mixF
 rw [schedN_take]
/-- The state behind i blocks. -/
def blocksN (ks h m : List Int) : Nat → List Int
 | 0 => h
 | i + 1 => mixF ks (blocksN ks h m i) (m.drop (64 * i))
theorem blocksN_len (ks h m : List Int) (hh : h.length = 8) : ∀ i, (blocksN ks h m i).length = 8
 | 0 => hh
 | i + 1 => mixF_len _ _ _ (blocksN_len ks h m hh i)
theorem blocksN_same (ks h m b : List Int) (k : Nat) (hm : m.take (64 * k) = b.take (64 * k)) : ∀ i, i ≤ k → blocksN ks h m i = blocksN ks h b i
 | 0, _ => rfl
 | i + 1, hi => by
  rw [blocksN, blocksN, blocksN_same ks h m b k hm i (by omega), ← mixF_take ks _ (m.drop (64 * i)), ← mixF_take ks _ (b.drop (64 * i))]
  have h1 : ∀ l : List Int, (l.drop (64 * i)).take 64 = ((l.take (64 * k)).drop (64 * i)).take 64 := by
   intro l
   rw [List.drop_take, List.take_take, Nat.min_eq_left (by omega)]
  rw [h1 m, h1 b, hm]
theorem blocksN_add (ks h m : List Int) (k : Nat) : ∀ i, blocksN ks h m (k + i) = blocksN ks (blocksN ks h m k) (m.drop (64 * k)) i
 | 0 => rfl
 | i + 1 => by
  rw [← Nat.add_assoc, blocksN, blocksN, blocksN_add ks h m k i, List.drop_drop]
  congr 2
  omega
/-- How many noughts lie between the text's end and its length. -/
def zc (n : Nat) : Nat := (119 - n % 64) % 64
theorem zc_ends (n : Nat) : (n + 1 + zc n) % 64 = 56 := by unfold zc; omega
theorem zc_before (n j : Nat) (h : j < zc n) : (n + 1 + j) % 64 ≠ 56 := by unfold zc at h; omega
theorem zc_lt (n : Nat) : zc n < 64 := by unfold zc; omega
theorem zc_mod (n : Nat) : zc (n % 64) = zc n := by unfold zc; omega
/-- What is set behind a text of n bytes. -/
def tailF (n : Nat) : List Int := 128 :: List.replicate (zc n) 0 ++ putF (IntKind.i64.wrap (8 * (n : Int))) 8
theorem tailF_len (n : Nat) : (tailF n).length = 9 + zc n := by
 unfold tailF putF
 rw [List.length_append, List.length_cons, List.length_replicate, putN_len]
 show zc n + 1 + 8 = _
 omega
theorem tailF_bytes (n : Nat) : Bytes (tailF n) := by
 unfold tailF
 refine Bytes.app (fun x hx => ?_) (putF_bytes _ _)
 rcases List.mem_cons.1 hx with rfl | hx
 · omega
 · exact bytes_rep _ x hx
def padF (b : List Int) : List Int := b ++ tailF b.length
theorem padF_len (b : List Int) : (padF b).length = 64 * ((b.length + 72) / 64) := by
 unfold padF
 rw [List.length_append, tailF_len]
 unfold zc
 omega
/-- The words' bytes. -/
def outF (h : List Int) : List Int := h.flatMap fun x => putF x 4
def shaW (ks h b : List Int) : List Int := blocksN ks h (padF b) ((b.length + 72) / 64)
/-- In two steps: the blocks of the text, then those of what is left and what is set behind it. -/
theorem shaW_steps (ks h b : List Int) : shaW ks h b = blocksN ks (blocksN ks h b (b.length / 64)) (b.drop (64 * (b.length / 64)) ++ tailF b.length) (((b.drop (64 * (b.length / 64))).length + 72) / 64) := by
 unfold shaW
 have hl : (b.drop (64 * (b.length / 64))).length = b.length % 64 := by rw [List.length_drop]; omega
 rw [hl, show (b.length + 72) / 64 = b.length / 64 + (b.length % 64 + 72) / 64 by omega, blocksN_add]
 have h1 : blocksN ks h (padF b) (b.length / 64) = blocksN ks h b (b.length / 64) :=
  blocksN_same ks h (padF b) b (b.length / 64) (by unfold padF; rw [List.take_append_of_le_length (by omega)]) _ (Nat.le_refl _)
 rw [h1]
 unfold padF
 rw [List.drop_append_of_le_length (by omega)]
theorem add32_nn (a b : Int) : 0 ≤ add32 a b ∧ add32 a b < 4294967296 := by
 have : add32 a b = (a + b) % 4294967296 := by
  unfold add32
  exact IntKind.wrap_u32 _
 omega
theorem add32_assoc (a b c : Int) : add32 (add32 a b) c = add32 a (add32 b c) := by
 have h : ∀ a b : Int, add32 a b = (a + b) % 4294967296 := by
  intro a b
  unfold add32
  exact IntKind.wrap_u32 _
 simp only [h]
 omega
theorem hN_words (h v : List Int) (hh : h.length = 8) : ∀ i, i ≤ 8 → ∀ j, j < i → 0 ≤ (hN h v i).getD j 0 ∧ (hN h v i).getD j 0 < 4294967296
 | 0, _, j, hj => absurd hj (by omega)
 | i + 1, hi, j, hj => by
  have hl : (hN h v i).length = 8 := (hN_len h v i).trans hh
  rw [hN]
  by_cases e : j = i
  · subst e
    rw [List.getD_eq_getElem?_getD, List.getElem?_set_self (by omega)]
    exact add32_nn _ _
  · rw [List.getD_eq_getElem?_getD, List.getElem?_set_ne (by omega), ← List.getD_eq_getElem?_getD]
    exact hN_words h v hh i (by omega) j (by omega)
theorem mixF_words (ks h b : List Int) (hh : h.length = 8) : ∀ x ∈ mixF ks h b, 0 ≤ x ∧ x < 4294967296 := by
 intro x hx
 obtain ⟨j, hj, rfl⟩ := List.getElem_of_mem hx
 have hl : (mixF ks h b).length = 8 := mixF_len _ _ _ hh
 have := hN_words h (vN h ks (schedN b 64) 64) hh 8 (by omega) j (by omega)
 have e : (mixF ks h b).getD j 0 = (mixF ks h b)[j] := by rw [List.getD_eq_getElem?_getD, List.getElem?_eq_getElem hj]; rfl
 rw [← e]
 exact this
theorem shaW_words (ks h b : List Int) (hh : h.length = 8) : ∀ x ∈ shaW ks h b, 0 ≤ x ∧ x < 4294967296 := by
 unfold shaW
 obtain ⟨k, hk⟩ : ∃ k, (b.length + 72) / 64 = k + 1 := ⟨(b.length + 72) / 64 - 1, by omega⟩
 rw [hk, blocksN]
 exact mixF_words _ _ _ (blocksN_len _ _ _ hh _)
theorem shaW_len (ks h b : List Int) (hh : h.length = 8) : (shaW ks h b).length = 8 := blocksN_len _ _ _ hh _
theorem putF_len4 (x : Int) : (putF x 4).length = 4 := by
 unfold putF
 rw [putN_len]
 decide
theorem outF_len (h : List Int) : (outF h).length = 4 * h.length := by
 induction h with
 | nil => rfl
 | cons x xs ih =>
  rw [outF, List.flatMap_cons, List.length_append, putF_len4, List.length_cons]
  rw [outF] at ih
  omega
theorem outF_bytes (h : List Int) : Bytes (outF h) := by
 intro x hx
 obtain ⟨y, _, hy⟩ := List.mem_flatMap.1 hx
 exact putF_bytes _ _ x hy
/-- The bytes of a word that is one. -/
theorem putF_word (x : Int) (h0 : 0 ≤ x) : putF x 4 = [x / 16777216 % 256, x / 65536 % 256, x / 256 % 256, x % 256] := by
 obtain ⟨n, rfl⟩ := Int.eq_ofNat_of_zero_le h0
 unfold putF
 have e : (max 0 (n : Int)).toNat = n := by omega
 have e4 : wid 4 = 4 := by decide
 rw [e, e4]
 unfold putN
 simp [List.range_succ]
end Go.Proofs.YthdjgebbjogmiaaDoor

namespace Go.Proofs.YthdjgebbjogmiaaDoor
open Go Go.RowKit

def iv : List Int := [1779033703, 3144134277, 1013904242, 2773480762, 1359893119, 2600822924, 528734635, 1541459225]
def kT : List Int := [1116352408, 1899447441, 3049323471, 3921009573, 961987163, 1508970993, 2453635748, 2870763221, 3624381080, 310598401, 607225278, 1426881987, 1925078388, 2162078206, 2614888103, 3248222580, 3835390401, 4022224774, 264347078, 604807628, 770255983, 1249150122, 1555081692, 1996064986, 2554220882, 2821834349, 2952996808, 3210313671, 3336571891, 3584528711, 113926993, 338241895, 666307205, 773529912, 1294757372, 1396182291, 1695183700, 1986661051, 2177026350, 2456956037, 2730485921, 2820302411, 3259730800, 3345764771, 3516065817, 3600352804, 4094571909, 275423344, 430227734, 506948616, 659060556, 883997877, 958139571, 1322822218, 1537002063, 1747873779, 1955562222, 2024104815, 2227730452, 2361852424, 2428436474, 2756734187, 3204031479, 3329325298]
theorem iv_len : iv.length = 8 := rfl
theorem kT_len : kT.length = 64 := rfl
def kParts : Array (Nat × Operand) := #[(0, .const (.int .u32 1116352408)), (1, .const (.int .u32 1899447441)), (2, .const (.int .u32 3049323471)), (3, .const (.int .u32 3921009573)), (4, .const (.int .u32 961987163)), (5, .const (.int .u32 1508970993)), (6, .const (.int .u32 2453635748)), (7, .const (.int .u32 2870763221)), (8, .const (.int .u32 3624381080)), (9, .const (.int .u32 310598401)), (10, .const (.int .u32 607225278)), (11, .const (.int .u32 1426881987)), (12, .const (.int .u32 1925078388)), (13, .const (.int .u32 2162078206)), (14, .const (.int .u32 2614888103)), (15, .const (.int .u32 3248222580)), (16, .const (.int .u32 3835390401)), (17, .const (.int .u32 4022224774)), (18, .const (.int .u32 264347078)), (19, .const (.int .u32 604807628)), (20, .const (.int .u32 770255983)), (21, .const (.int .u32 1249150122)), (22, .const (.int .u32 1555081692)), (23, .const (.int .u32 1996064986)), (24, .const (.int .u32 2554220882)), (25, .const (.int .u32 2821834349)), (26, .const (.int .u32 2952996808)), (27, .const (.int .u32 3210313671)), (28, .const (.int .u32 3336571891)), (29, .const (.int .u32 3584528711)), (30, .const (.int .u32 113926993)), (31, .const (.int .u32 338241895)), (32, .const (.int .u32 666307205)), (33, .const (.int .u32 773529912)), (34, .const (.int .u32 1294757372)), (35, .const (.int .u32 1396182291)), (36, .const (.int .u32 1695183700)), (37, .const (.int .u32 1986661051)), (38, .const (.int .u32 2177026350)), (39, .const (.int .u32 2456956037)), (40, .const (.int .u32 2730485921)), (41, .const (.int .u32 2820302411)), (42, .const (.int .u32 3259730800)), (43, .const (.int .u32 3345764771)), (44, .const (.int .u32 3516065817)), (45, .const (.int .u32 3600352804)), (46, .const (.int .u32 4094571909)), (47, .const (.int .u32 275423344)), (48, .const (.int .u32 430227734)), (49, .const (.int .u32 506948616)), (50, .const (.int .u32 659060556)), (51, .const (.int .u32 883997877)), (52, .const (.int .u32 958139571)), (53, .const (.int .u32 1322822218)), (54, .const (.int .u32 1537002063)), (55, .const (.int .u32 1747873779)), (56, .const (.int .u32 1955562222)), (57, .const (.int .u32 2024104815)), (58, .const (.int .u32 2227730452)), (59, .const (.int .u32 2361852424)), (60, .const (.int .u32 2428436474)), (61, .const (.int .u32 2756734187)), (62, .const (.int .u32 3204031479)), (63, .const (.int .u32 3329325298))]
def kVals : List (Nat × Value) := [(0, .int .u32 1116352408), (1, .int .u32 1899447441), (2, .int .u32 3049323471), (3, .int .u32 3921009573), (4, .int .u32 961987163), (5, .int .u32 1508970993), (6, .int .u32 2453635748), (7, .int .u32 2870763221), (8, .int .u32 3624381080), (9, .int .u32 310598401), (10, .int .u32 607225278), (11, .int .u32 1426881987), (12, .int .u32 1925078388), (13, .int .u32 2162078206), (14, .int .u32 2614888103), (15, .int .u32 3248222580), (16, .int .u32 3835390401), (17, .int .u32 4022224774), (18, .int .u32 264347078), (19, .int .u32 604807628), (20, .int .u32 770255983), (21, .int .u32 1249150122), (22, .int .u32 1555081692), (23, .int .u32 1996064986), (24, .int .u32 2554220882), (25, .int .u32 2821834349), (26, .int .u32 2952996808), (27, .int .u32 3210313671), (28, .int .u32 3336571891), (29, .int .u32 3584528711), (30, .int .u32 113926993), (31, .int .u32 338241895), (32, .int .u32 666307205), (33, .int .u32 773529912), (34, .int .u32 1294757372), (35, .int .u32 1396182291), (36, .int .u32 1695183700), (37, .int .u32 1986661051), (38, .int .u32 2177026350), (39, .int .u32 2456956037), (40, .int .u32 2730485921), (41, .int .u32 2820302411), (42, .int .u32 3259730800), (43, .int .u32 3345764771), (44, .int .u32 3516065817), (45, .int .u32 3600352804), (46, .int .u32 4094571909), (47, .int .u32 275423344), (48, .int .u32 430227734), (49, .int .u32 506948616), (50, .int .u32 659060556), (51, .int .u32 883997877), (52, .int .u32 958139571), (53, .int .u32 1322822218), (54, .int .u32 1537002063), (55, .int .u32 1747873779), (56, .int .u32 1955562222), (57, .int .u32 2024104815), (58, .int .u32 2227730452), (59, .int .u32 2361852424), (60, .int .u32 2428436474), (61, .int .u32 2756734187), (62, .int .u32 3204031479), (63, .int .u32 3329325298)]
theorem built_k : Tryd.prog.built 102 kVals = some (u32s kT).toArray := by kernel_rfl
theorem size_a64 : (Tryd.prog.info? 102).map (·.size) = some 64 := by kernel_rfl
section
variable {o : Oper} {a : Act} {w : World} {Q : Exit → Act → World → Prop} {ops : Array Oper} {rest : List Oper}
theorem wpList_build_k (hgd : o.guard = none) (ho : o.op = .build 102 kParts) (h : wpList Tryd.prog ops Q rest (a.put o.dst (.agg (u32s kT).toArray)) w) : wpList Tryd.prog ops Q (o :: rest) a w := by
 have hm : (kParts.map fun (i, x) => (i, a.eval x)).toList = kVals := by simp [kParts, kVals, Act.eval]
 exact wpList_build hgd _ kParts ho (by rw [hm, built_k]; rfl) (by rw [hm, built_k]; exact h)
end
set_option maxRecDepth 100000
theorem begin_any (w : World) : Calls Tryd.prog 107 #[] w fun e w' => e = .returned (.agg (u32s iv).toArray) ∧ Below w.heap.size w w' := by
 go_enter Tryd.func107, Tryd.ntmps107
 go_wp2_with (first
  | (refine wpList_alloc_blk rfl 104 rfl _ zero_a8 ?_; intro w2 hb2 hw2 hs2; have HB := hide hb2; have HW := hide hw2; clear hb2 hw2)
  | (refine wpList_build_a8 rfl _ _ _ _ _ _ _ _ rfl 1779033703 3144134277 1013904242 2773480762 1359893119 2600822924 528734635 1541459225 rfl rfl rfl rfl rfl rfl rfl rfl ?_)
  | (refine wpList_store_blk rfl 104 _ _ rfl w.heap.size 0 (u32s iv) rfl rfl _ _ HB.out (by simp [u32s_len, iv_len]) (by rw [u32s_len, iv_len]; exact size_a8) (u32s_one _) ?_; intro w7 hb7 hg7 hs7; rw [lset_all _ _ (by rw [u32s_len, u32s_len]; rfl)] at hb7; have HB2 := hide hb7; have HW2 := hide (HW.out.grown hg7 (by have := HW.out.size; omega) (by intro k hk; simp at hk; omega)); clear hb7 hg7))
 refine bodyPost_ret (v := .agg (u32s iv).toArray) (results_cell_row rfl _ _ w.heap.size 104 _ (0, 0) _ rfl HB2.out Tryd.underlying104 rfl (by rw [List.size_toArray, u32s_len, iv_len]; exact size_a8)) rfl ?_
 exact ⟨rfl, HW2.out⟩
theorem table_any (w : World) : Calls Tryd.prog 108 #[] w fun e w' => e = .returned (.agg (u32s kT).toArray) ∧ Below w.heap.size w w' := by
 go_enter Tryd.func108, Tryd.ntmps108
 go_wp2_with (first
  | (refine wpList_alloc_blk rfl 102 rfl _ zero_a64 ?_; intro w2 hb2 hw2 hs2; have HB := hide hb2; have HW := hide hw2; clear hb2 hw2)
  | (refine wpList_build_k rfl rfl ?_)
  | (refine wpList_store_blk rfl 102 _ _ rfl w.heap.size 0 (u32s kT) rfl rfl _ _ HB.out (by simp [u32s_len, kT_len]) (by rw [u32s_len, kT_len]; exact size_a64) (u32s_one _) ?_; intro w7 hb7 hg7 hs7; rw [lset_all _ _ (by rw [u32s_len, u32s_len]; rfl)] at hb7; have HB2 := hide hb7; have HW2 := hide (HW.out.grown hg7 (by have := HW.out.size; omega) (by intro k hk; simp at hk; omega)); clear hb7 hg7))
 refine bodyPost_ret (v := .agg (u32s kT).toArray) (results_cell_row rfl _ _ w.heap.size 102 _ (0, 0) _ rfl HB2.out Tryd.underlying102 rfl (by rw [List.size_toArray, u32s_len, kT_len]; exact size_a64)) rfl ?_
 exact ⟨rfl, HW2.out⟩
theorem rounds_ref (w : World) : Calls Tryd.prog 86 #[] w fun e w' => e = .returned (.agg (u32s kT).toArray) ∧ Below w.heap.size w w' := by
 go_enter Tryd.func86, Tryd.ntmps86
 go_wp2_with (first
  | (refine wpList_alloc_blk rfl 102 rfl _ zero_a64 ?_; intro w2 hb2 hw2 hs2; have HB := hide hb2; have HW := hide hw2; clear hb2 hw2)
  | (refine wpList_build_k rfl rfl ?_)
  | (refine wpList_store_blk rfl 102 _ _ rfl w.heap.size 0 (u32s kT) rfl rfl _ _ HB.out (by simp [u32s_len, kT_len]) (by rw [u32s_len, kT_len]; exact size_a64) (u32s_one _) ?_; intro w7 hb7 hg7 hs7; rw [lset_all _ _ (by rw [u32s_len, u32s_len]; rfl)] at hb7; have HB2 := hide hb7; have HW2 := hide (HW.out.grown hg7 (by have := HW.out.size; omega) (by intro k hk; simp at hk; omega)); clear hb7 hg7))
 refine bodyPost_ret (v := .agg (u32s kT).toArray) (results_cell_row rfl _ _ w.heap.size 102 _ (0, 0) _ rfl HB2.out Tryd.underlying102 rfl (by rw [List.size_toArray, u32s_len, kT_len]; exact size_a64)) rfl ?_
 exact ⟨rfl, HW2.out⟩
/-- A hash on its way, in block g: its words, the rounds' numbers, what is left, how many bytes there were. -/
def shaCells (h ks : List Int) (left : Value) (n : Int) : List Value := u32s h ++ (u32s ks ++ [left, .int .i64 n])
def ShaB (w : World) (g : Nat) (h ks : List Int) (left : Value) (n : Int) : Prop := Blk w g 126 (shaCells h ks left n)
theorem built_sha : Tryd.prog.built 126 [(0, .agg (u32s iv).toArray), (1, .agg (u32s kT).toArray)] = some (shaCells iv kT (.slice none 0 0) 0).toArray := by kernel_rfl
theorem wpList_build_sha {o : Oper} {a : Act} {w : World} {Q : Exit → Act → World → Prop} {ops : Array Oper} {rest : List Oper} (hgd : o.guard = none) (x y : Operand) (ho : o.op = .build 126 #[(0, x), (1, y)]) (hx : a.eval x = .agg (u32s iv).toArray) (hy : a.eval y = .agg (u32s kT).toArray)
 (h : wpList Tryd.prog ops Q rest (a.put o.dst (.agg (shaCells iv kT (.slice none 0 0) 0).toArray)) w) : wpList Tryd.prog ops Q (o :: rest) a w := by
 have hm : ((#[(0, x), (1, y)] : Array (Nat × Operand)).map fun (i, x) => (i, a.eval x)).toList = [(0, .agg (u32s iv).toArray), (1, .agg (u32s kT).toArray)] := by simp [hx, hy]
 exact wpList_build hgd _ _ ho (by rw [hm, built_sha]; rfl) (by rw [hm, built_sha]; exact h)
theorem wpList_box_sha {o : Oper} {a : Act} {w : World} {Q : Exit → Act → World → Prop} {ops : Array Oper} {rest : List Oper} (x : Operand) (ho : o.op = .box 126 x) (cs : List Value) (hx : a.eval x = .agg cs.toArray) (hgd : o.guard = none)
 (h : ∀ w', Blk w' w.heap.size 126 cs → Below w.heap.size w w' → w'.heap.size = w.heap.size + 1 → wpList Tryd.prog ops Q rest (a.put o.dst (.pointer (some ⟨w.heap.size, 0, none⟩))) w') : wpList Tryd.prog ops Q (o :: rest) a w :=
 Great.wpList_boxTo hgd _ x ho _ rfl _ rfl cs.toArray (by rw [hx]; rfl) (h _ (Blk.new w _ _) ((Below.refl _ _).alloc (Nat.le_refl _) _) (by simp))
theorem New_any (w : World) : Calls Tryd.prog 100 #[] w fun e w' => ∃ g, e = .returned (.pointer (some ⟨g, 0, none⟩)) ∧ w.heap.size ≤ g ∧ w'.heap.size = g + 1 ∧ ShaB w' g iv kT (.slice none 0 0) 0 ∧ Below w.heap.size w w' := by
 obtain ⟨IV, HIV⟩ : ∃ x, Hid (Value.agg (u32s iv).toArray = x) := ⟨_, hide rfl⟩
 obtain ⟨KT, HKT⟩ : ∃ x, Hid (Value.agg (u32s kT).toArray = x) := ⟨_, hide rfl⟩
 obtain ⟨SH, HSH⟩ : ∃ x, Hid (shaCells iv kT (.slice none 0 0) 0 = x) := ⟨_, hide rfl⟩
 go_enter Tryd.func100, Tryd.ntmps100
 go_wp2_with fail
 refine (begin_any _).mono ?_
 rintro e w1 ⟨rfl, hb1⟩
 have HB1 := hide hb1
 clear hb1
 rw [HIV.out]
 go_wp2_with fail
 refine (table_any _).mono ?_
 rintro e w2 ⟨rfl, hb2⟩
 have HB2 := hide (HB1.out.trans (hb2.mono HB1.out.size))
 clear hb2 HB1
 rw [HKT.out]
 go_wp2_with (first
  | (refine wpList_build_sha rfl _ _ rfl HIV.out.symm HKT.out.symm ?_; rw [HSH.out])
  | (refine wpList_box_sha _ rfl SH rfl rfl ?_; intro w3 hb3 hw3 hs3; have HX := hide hb3; have HW := hide hw3; clear hb3 hw3))
 refine bodyPost_ret (results_tmp rfl _ _ _) rfl ⟨_, rfl, HB2.out.size, hs3, ?_, HB2.out.trans (HW.out.mono HB2.out.size)⟩
 unfold ShaB
 rw [HSH.out]
 exact HX.out
end Go.Proofs.YthdjgebbjogmiaaDoor
