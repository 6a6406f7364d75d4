/- Words of 32 bits: what the operations on them yield, and that they do. No condition. -/
import Derived.Test.YthdjgebbjogmiaaDoorJoin8
import Derived.Test.YthdjgebbjogmiaaDoorJoin2
import Derived.Deep.RegionHeld3
set_option linter.unusedVariables false
set_option linter.unusedSimpArgs false
namespace Go.Proofs.YthdjgebbjogmiaaDoor
open Go Go.RowKit

def u32s (xs : List Int) : List Value := xs.map (Value.int .u32)
theorem u32s_len (xs : List Int) : (u32s xs).length = xs.length := by simp [u32s]
theorem u32s_set (xs : List Int) (i : Nat) (x : Int) : (u32s xs).set i (.int .u32 x) = u32s (xs.set i x) := by simp [u32s]
theorem u32s_one (xs : List Int) : ∀ u ∈ u32s xs, u.oneCell' = true := by
 intro u hu
 obtain ⟨x, _, rfl⟩ := List.mem_map.1 hu
 rfl
def add32 (a b : Int) : Int := IntKind.u32.wrap (a + b)
def xor32 (a b : Int) : Int := bits .xor .u32 a b
def and32 (a b : Int) : Int := bits .and .u32 a b
def or32 (a b : Int) : Int := bits .or .u32 a b
def not32 (a : Int) : Int := bits .xor .u32 IntKind.u32.max a
/-- Turned to the right by k. -/
def rotF (x : Int) (k : Nat) : Int := bits .or .u32 (x * (2 ^ (32 - k) : Nat) % 4294967296) (x / (2 ^ k : Nat))

section
variable {o : Oper} {a : Act} {w : World}
theorem exec_add32 (x y : Operand) (t' : TypeId) (ho : o.op = .binOp .add 101 x y t') (p q : Int) (hx : a.eval x = .int .u32 p) (hy : a.eval y = .int .u32 q) : (execOp a.eval o).run Tryd.prog w = .ok (.value (.int .u32 (add32 p q))) w := by
 unfold execOp add32
 simp only [ho, hx, hy]
 go_simp
theorem exec_xor32 (x y : Operand) (t' : TypeId) (ho : o.op = .binOp .xor 101 x y t') (p q : Int) (hx : a.eval x = .int .u32 p) (hy : a.eval y = .int .u32 q) : (execOp a.eval o).run Tryd.prog w = .ok (.value (.int .u32 (xor32 p q))) w := by
 unfold execOp xor32
 simp only [ho, hx, hy]
 go_simp
theorem exec_and32 (x y : Operand) (t' : TypeId) (ho : o.op = .binOp .and 101 x y t') (p q : Int) (hx : a.eval x = .int .u32 p) (hy : a.eval y = .int .u32 q) : (execOp a.eval o).run Tryd.prog w = .ok (.value (.int .u32 (and32 p q))) w := by
 unfold execOp and32
 simp only [ho, hx, hy]
 go_simp
theorem exec_or32 (x y : Operand) (t' : TypeId) (ho : o.op = .binOp .or 101 x y t') (p q : Int) (hx : a.eval x = .int .u32 p) (hy : a.eval y = .int .u32 q) : (execOp a.eval o).run Tryd.prog w = .ok (.value (.int .u32 (or32 p q))) w := by
 unfold execOp or32
 simp only [ho, hx, hy]
 go_simp
theorem exec_not32 (x : Operand) (ho : o.op = .unOp .xor 101 x) (p : Int) (hx : a.eval x = .int .u32 p) : (execOp a.eval o).run Tryd.prog w = .ok (.value (.int .u32 (not32 p))) w := by
 unfold execOp not32
 simp only [ho, hx]
 go_simp
 rfl
theorem exec_shr32_24 (x : Operand) (t' : TypeId) (ho : o.op = .binOp .shr 101 x (.const (.int .u64 24)) t') (p : Int) (hx : a.eval x = .int .u32 p) : (execOp a.eval o).run Tryd.prog w = .ok (.value (.int .u32 (p / 16777216))) w := by
 have hk : a.eval (.const (.int .u64 24)) = .int .u64 24 := rfl
 unfold execOp
 simp only [ho, hx, hk]
 go_simp
theorem exec_shr32_16 (x : Operand) (t' : TypeId) (ho : o.op = .binOp .shr 101 x (.const (.int .u64 16)) t') (p : Int) (hx : a.eval x = .int .u32 p) : (execOp a.eval o).run Tryd.prog w = .ok (.value (.int .u32 (p / 65536))) w := by
 have hk : a.eval (.const (.int .u64 16)) = .int .u64 16 := rfl
 unfold execOp
 simp only [ho, hx, hk]
 go_simp
theorem exec_shr32_8 (x : Operand) (t' : TypeId) (ho : o.op = .binOp .shr 101 x (.const (.int .u64 8)) t') (p : Int) (hx : a.eval x = .int .u32 p) : (execOp a.eval o).run Tryd.prog w = .ok (.value (.int .u32 (p / 256))) w := by
 have hk : a.eval (.const (.int .u64 8)) = .int .u64 8 := rfl
 unfold execOp
 simp only [ho, hx, hk]
 go_simp
theorem exec_shr32_3 (x : Operand) (t' : TypeId) (ho : o.op = .binOp .shr 101 x (.const (.int .u64 3)) t') (p : Int) (hx : a.eval x = .int .u32 p) : (execOp a.eval o).run Tryd.prog w = .ok (.value (.int .u32 (p / 8))) w := by
 have hk : a.eval (.const (.int .u64 3)) = .int .u64 3 := rfl
 unfold execOp
 simp only [ho, hx, hk]
 go_simp
theorem exec_shr32_10 (x : Operand) (t' : TypeId) (ho : o.op = .binOp .shr 101 x (.const (.int .u64 10)) t') (p : Int) (hx : a.eval x = .int .u32 p) : (execOp a.eval o).run Tryd.prog w = .ok (.value (.int .u32 (p / 1024))) w := by
 have hk : a.eval (.const (.int .u64 10)) = .int .u64 10 := rfl
 unfold execOp
 simp only [ho, hx, hk]
 go_simp
theorem exec_shl32_24 (x : Operand) (t' : TypeId) (ho : o.op = .binOp .shl 101 x (.const (.int .u64 24)) t') (p : Int) (hx : a.eval x = .int .u32 p) : (execOp a.eval o).run Tryd.prog w = .ok (.value (.int .u32 (IntKind.u32.wrap (p * 16777216)))) w := by
 have hk : a.eval (.const (.int .u64 24)) = .int .u64 24 := rfl
 unfold execOp
 simp only [ho, hx, hk]
 go_simp
theorem exec_shl32_16 (x : Operand) (t' : TypeId) (ho : o.op = .binOp .shl 101 x (.const (.int .u64 16)) t') (p : Int) (hx : a.eval x = .int .u32 p) : (execOp a.eval o).run Tryd.prog w = .ok (.value (.int .u32 (IntKind.u32.wrap (p * 65536)))) w := by
 have hk : a.eval (.const (.int .u64 16)) = .int .u64 16 := rfl
 unfold execOp
 simp only [ho, hx, hk]
 go_simp
theorem exec_shl32_8 (x : Operand) (t' : TypeId) (ho : o.op = .binOp .shl 101 x (.const (.int .u64 8)) t') (p : Int) (hx : a.eval x = .int .u32 p) : (execOp a.eval o).run Tryd.prog w = .ok (.value (.int .u32 (IntKind.u32.wrap (p * 256)))) w := by
 have hk : a.eval (.const (.int .u64 8)) = .int .u64 8 := rfl
 unfold execOp
 simp only [ho, hx, hk]
 go_simp
theorem exec_conv32 (x : Operand) (ho : o.op = .convert 5 101 x) (p : Int) (hx : a.eval x = .int .u8 p) : (execOp a.eval o).run Tryd.prog w = .ok (.value (.int .u32 (IntKind.u32.wrap p))) w := by
 unfold execOp
 simp only [ho, hx]
 go_simp
theorem exec_i64_mul (x y : Operand) (t' : TypeId) (ho : o.op = .binOp .mul 3 x y t') (p q z : Int) (hx : a.eval x = .int .i64 p) (hy : a.eval y = .int .i64 q) (hz : IntKind.i64.wrap (p * q) = z) : (execOp a.eval o).run Tryd.prog w = .ok (.value (.int .i64 z)) w := by
 subst hz
 unfold execOp
 simp only [ho, hx, hy]
 go_simp
theorem exec_i64_add (x y : Operand) (t' : TypeId) (ho : o.op = .binOp .add 3 x y t') (p q z : Int) (hx : a.eval x = .int .i64 p) (hy : a.eval y = .int .i64 q) (hz : IntKind.i64.wrap (p + q) = z) : (execOp a.eval o).run Tryd.prog w = .ok (.value (.int .i64 z)) w := by
 subst hz
 unfold execOp
 simp only [ho, hx, hy]
 go_simp
theorem exec_i64_sub (x y : Operand) (t' : TypeId) (ho : o.op = .binOp .sub 3 x y t') (p q z : Int) (hx : a.eval x = .int .i64 p) (hy : a.eval y = .int .i64 q) (hz : IntKind.i64.wrap (p - q) = z) : (execOp a.eval o).run Tryd.prog w = .ok (.value (.int .i64 z)) w := by
 subst hz
 unfold execOp
 simp only [ho, hx, hy]
 go_simp
theorem exec_index_u8 (x y : Operand) (ho : o.op = .indexAddr 26 x y) (b of n c : Nat) (k : Int) (j : Nat) (hx : a.eval x = .slice (some ⟨b, of, none⟩) n c) (hy : a.eval y = .int .i64 k) (hj : k = (j : Int)) (hn : j < n) :
 (execOp a.eval o).run Tryd.prog w = .ok (.value (.pointer (some ⟨b, of + j, none⟩))) w := by
 subst hj
 unfold execOp
 simp only [ho, hx, hy]
 have h1 : (j : Int) < (n : Int) := by omega
 have h0 : (0 : Int) ≤ (j : Int) := by omega
 go_simp
theorem exec_index_arr102 (x y : Operand) (ho : o.op = .indexAddr 102 x y) (g of : Nat) (k : Int) (j off : Nat) (hx : a.eval x = .pointer (some ⟨g, of, none⟩)) (hy : a.eval y = .int .i64 k) (hj : k = (j : Int)) (hn : j < 64) (ho' : off = of + j) :
 (execOp a.eval o).run Tryd.prog w = .ok (.value (.pointer (some ⟨g, off, none⟩))) w := by
 subst hj ho'
 unfold execOp
 simp only [ho, hx, hy]
 have h1 : (j : Int) < 64 := by omega
 have h0 : (0 : Int) ≤ (j : Int) := by omega
 go_simp
theorem exec_index_arr104 (x y : Operand) (ho : o.op = .indexAddr 104 x y) (g of : Nat) (k : Int) (j off : Nat) (hx : a.eval x = .pointer (some ⟨g, of, none⟩)) (hy : a.eval y = .int .i64 k) (hj : k = (j : Int)) (hn : j < 8) (ho' : off = of + j) :
 (execOp a.eval o).run Tryd.prog w = .ok (.value (.pointer (some ⟨g, off, none⟩))) w := by
 subst hj ho'
 unfold execOp
 simp only [ho, hx, hy]
 have h1 : (j : Int) < 8 := by omega
 have h0 : (0 : Int) ≤ (j : Int) := by omega
 go_simp
theorem exec_nilCheck (x : Operand) (ho : o.op = .nilCheck x) (p : Addr) (hx : a.eval x = .pointer (some p)) : (execOp a.eval o).run Tryd.prog w = .ok (.value (.pointer (some p))) w := by
 unfold execOp
 simp only [ho, hx]
 go_simp
theorem exec_conv8 (x : Operand) (ho : o.op = .convert 101 5 x) (p : Int) (hx : a.eval x = .int .u32 p) : (execOp a.eval o).run Tryd.prog w = .ok (.value (.int .u8 (IntKind.u8.wrap p))) w := by
 unfold execOp
 simp only [ho, hx]
 go_simp
theorem exec_load_u32 (x : Operand) (ho : o.op = .load 101 x) (g off : Nat) (hx : a.eval x = .pointer (some ⟨g, off, none⟩)) (v : Value) (hc : w.cell? ⟨g, off, none⟩ = some v) : (execOp a.eval o).run Tryd.prog w = .ok (.value v) w := exec_load_one _ x ho g off hx _ Tryd.underlying101 rfl _ hc
theorem exec_load_u8 (x : Operand) (ho : o.op = .load 5 x) (g off : Nat) (hx : a.eval x = .pointer (some ⟨g, off, none⟩)) (v : Value) (hc : w.cell? ⟨g, off, none⟩ = some v) : (execOp a.eval o).run Tryd.prog w = .ok (.value v) w := exec_load_one _ x ho g off hx _ Tryd.underlying5 rfl _ hc
end
theorem size_u32 : (Tryd.prog.info? 101).map (·.size) = some 1 := by kernel_rfl
theorem size_a8 : (Tryd.prog.info? 104).map (·.size) = some 8 := by kernel_rfl
theorem zero_a8 : (Tryd.prog.info? 104).map (·.zero) = some (some (.agg (u32s (List.replicate 8 0)).toArray)) := by kernel_rfl
theorem zero_a64 : (Tryd.prog.info? 102).map (·.zero) = some (some (.agg (u32s (List.replicate 64 0)).toArray)) := by kernel_rfl
/-- The words' cells. -/
theorem blk_u32 {w : World} {g : Nat} {t : TypeId} {xs : List Int} (h : Blk w g t (u32s xs)) (i : Nat) (hi : i < xs.length) : w.cell? ⟨g, i, none⟩ = some (.int .u32 (xs.getD i 0)) := by
 rw [h.cell, u32s, List.getElem?_map, List.getElem?_eq_getElem hi, List.getD_eq_getElem?_getD, List.getElem?_eq_getElem hi]
 rfl
/-- A word stored into a block of words. -/
theorem wp_u32_put {o : Oper} {a : Act} {w : World} {K : Act → World → Prop} {Q : Exit → Act → World → Prop} (x y : Operand) (ho : o.op = .store 101 x y) (g i : Nat) (t : TypeId) (xs : List Int) (hx : a.eval x = .pointer (some ⟨g, i, none⟩)) (hB : Blk w g t (u32s xs)) (hi : i < xs.length) (z : Int) (hy : a.eval y = .int .u32 z)
 (h : ∀ w', Blk w' g t (u32s (xs.set i z)) → w.grownBy w' (some g) → w'.heap.size = w.heap.size → K (a.put o.dst undef) w') : o.wp Tryd.prog a w K Q := by
 have hg := grown_setCells (g := g) [Value.int .u32 z] w i
 refine wp_store_one _ x y ho g i hx _ hy (by rw [blk_u32 hB i hi]; rfl) (hB.frozen _) rfl size_u32 (h _ ?_ hg.1 hg.2)
 have := hB.set_ i (.int .u32 z)
 rwa [u32s_set] at this
theorem wp_u32_putD {o : Oper} {a : Act} {w : World} {K : Act → World → Prop} {Q : Exit → Act → World → Prop} (hd : o.dst = none) (x y : Operand) (ho : o.op = .store 101 x y) (g i : Nat) (t : TypeId) (xs : List Int) (hx : a.eval x = .pointer (some ⟨g, i, none⟩)) (hB : Blk w g t (u32s xs)) (hi : i < xs.length) (z : Int) (hy : a.eval y = .int .u32 z)
 (h : ∀ w', Blk w' g t (u32s (xs.set i z)) → w.grownBy w' (some g) → w'.heap.size = w.heap.size → K (a.put none undef) w') : o.wp Tryd.prog a w K Q :=
 wp_u32_put x y ho g i t xs hx hB hi z hy fun w' h1 h2 h3 => by rw [hd]; exact h w' h1 h2 h3
theorem wpList_u32_put {ops : Array Oper} {rest : List Oper} {o : Oper} {a : Act} {w : World} {Q : Exit → Act → World → Prop} (hgd : o.guard = none) (x y : Operand) (ho : o.op = .store 101 x y) (g i : Nat) (t : TypeId) (xs : List Int) (hx : a.eval x = .pointer (some ⟨g, i, none⟩)) (hB : Blk w g t (u32s xs)) (hi : i < xs.length) (z : Int) (hy : a.eval y = .int .u32 z)
 (h : ∀ w', Blk w' g t (u32s (xs.set i z)) → w.grownBy w' (some g) → w'.heap.size = w.heap.size → wpList Tryd.prog ops Q rest (a.put o.dst undef) w') : wpList Tryd.prog ops Q (o :: rest) a w :=
 wpList_plain hgd fun _ hK => wp_u32_put x y ho g i t xs hx hB hi z hy fun w' h1 h2 h3 => hK _ _ (h w' h1 h2 h3)
/-- The program's and the document's turning. -/
theorem rot_7 (x : Int) (w : World) : Calls Tryd.prog 116 #[.int .u32 x, .int .i64 (-7)] w fun e w' => e = .returned (.int .u32 (rotF x 7)) ∧ w = w' := by
 have hb : bits .and .u64 (IntKind.u64.wrap (-7)) 31 = 25 := by decide +kernel
 go_enter Tryd.func116, Tryd.ntmps116
 go_wp2_with fail
 exact bodyPost_ret (results_tmp rfl _ _ _) rfl ⟨rfl, rfl⟩
theorem rot_18 (x : Int) (w : World) : Calls Tryd.prog 116 #[.int .u32 x, .int .i64 (-18)] w fun e w' => e = .returned (.int .u32 (rotF x 18)) ∧ w = w' := by
 have hb : bits .and .u64 (IntKind.u64.wrap (-18)) 31 = 14 := by decide +kernel
 go_enter Tryd.func116, Tryd.ntmps116
 go_wp2_with fail
 exact bodyPost_ret (results_tmp rfl _ _ _) rfl ⟨rfl, rfl⟩
theorem rot_17 (x : Int) (w : World) : Calls Tryd.prog 116 #[.int .u32 x, .int .i64 (-17)] w fun e w' => e = .returned (.int .u32 (rotF x 17)) ∧ w = w' := by
 have hb : bits .and .u64 (IntKind.u64.wrap (-17)) 31 = 15 := by decide +kernel
 go_enter Tryd.func116, Tryd.ntmps116
 go_wp2_with fail
 exact bodyPost_ret (results_tmp rfl _ _ _) rfl ⟨rfl, rfl⟩
theorem rot_19 (x : Int) (w : World) : Calls Tryd.prog 116 #[.int .u32 x, .int .i64 (-19)] w fun e w' => e = .returned (.int .u32 (rotF x 19)) ∧ w = w' := by
 have hb : bits .and .u64 (IntKind.u64.wrap (-19)) 31 = 13 := by decide +kernel
 go_enter Tryd.func116, Tryd.ntmps116
 go_wp2_with fail
 exact bodyPost_ret (results_tmp rfl _ _ _) rfl ⟨rfl, rfl⟩
theorem rot_6 (x : Int) (w : World) : Calls Tryd.prog 116 #[.int .u32 x, .int .i64 (-6)] w fun e w' => e = .returned (.int .u32 (rotF x 6)) ∧ w = w' := by
 have hb : bits .and .u64 (IntKind.u64.wrap (-6)) 31 = 26 := by decide +kernel
 go_enter Tryd.func116, Tryd.ntmps116
 go_wp2_with fail
 exact bodyPost_ret (results_tmp rfl _ _ _) rfl ⟨rfl, rfl⟩
theorem rot_11 (x : Int) (w : World) : Calls Tryd.prog 116 #[.int .u32 x, .int .i64 (-11)] w fun e w' => e = .returned (.int .u32 (rotF x 11)) ∧ w = w' := by
 have hb : bits .and .u64 (IntKind.u64.wrap (-11)) 31 = 21 := by decide +kernel
 go_enter Tryd.func116, Tryd.ntmps116
 go_wp2_with fail
 exact bodyPost_ret (results_tmp rfl _ _ _) rfl ⟨rfl, rfl⟩
theorem rot_25 (x : Int) (w : World) : Calls Tryd.prog 116 #[.int .u32 x, .int .i64 (-25)] w fun e w' => e = .returned (.int .u32 (rotF x 25)) ∧ w = w' := by
 have hb : bits .and .u64 (IntKind.u64.wrap (-25)) 31 = 7 := by decide +kernel
 go_enter Tryd.func116, Tryd.ntmps116
 go_wp2_with fail
 exact bodyPost_ret (results_tmp rfl _ _ _) rfl ⟨rfl, rfl⟩
theorem rot_2 (x : Int) (w : World) : Calls Tryd.prog 116 #[.int .u32 x, .int .i64 (-2)] w fun e w' => e = .returned (.int .u32 (rotF x 2)) ∧ w = w' := by
 have hb : bits .and .u64 (IntKind.u64.wrap (-2)) 31 = 30 := by decide +kernel
 go_enter Tryd.func116, Tryd.ntmps116
 go_wp2_with fail
 exact bodyPost_ret (results_tmp rfl _ _ _) rfl ⟨rfl, rfl⟩
theorem rot_13 (x : Int) (w : World) : Calls Tryd.prog 116 #[.int .u32 x, .int .i64 (-13)] w fun e w' => e = .returned (.int .u32 (rotF x 13)) ∧ w = w' := by
 have hb : bits .and .u64 (IntKind.u64.wrap (-13)) 31 = 19 := by decide +kernel
 go_enter Tryd.func116, Tryd.ntmps116
 go_wp2_with fail
 exact bodyPost_ret (results_tmp rfl _ _ _) rfl ⟨rfl, rfl⟩
theorem rot_22 (x : Int) (w : World) : Calls Tryd.prog 116 #[.int .u32 x, .int .i64 (-22)] w fun e w' => e = .returned (.int .u32 (rotF x 22)) ∧ w = w' := by
 have hb : bits .and .u64 (IntKind.u64.wrap (-22)) 31 = 10 := by decide +kernel
 go_enter Tryd.func116, Tryd.ntmps116
 go_wp2_with fail
 exact bodyPost_ret (results_tmp rfl _ _ _) rfl ⟨rfl, rfl⟩
theorem bits_or_comm (a b : Int) : bits .or .u32 a b = bits .or .u32 b a := by
 show IntKind.u32.wrap ((BitVec.ofInt 32 a ||| BitVec.ofInt 32 b).toNat : Int) = IntKind.u32.wrap ((BitVec.ofInt 32 b ||| BitVec.ofInt 32 a).toNat : Int)
 rw [BitVec.or_comm]
theorem turn_7 (x : Int) (w : World) : Calls Tryd.prog 87 #[.int .u32 x, .int .u64 7] w fun e w' => e = .returned (.int .u32 (rotF x 7)) ∧ w = w' := by
 go_enter Tryd.func87, Tryd.ntmps87
 go_wp2_with fail
 refine bodyPost_ret (results_tmp rfl _ _ _) rfl ⟨?_, rfl⟩
 exact congrArg (fun z => Ending.returned (.int .u32 z)) (bits_or_comm _ _)
theorem turn_18 (x : Int) (w : World) : Calls Tryd.prog 87 #[.int .u32 x, .int .u64 18] w fun e w' => e = .returned (.int .u32 (rotF x 18)) ∧ w = w' := by
 go_enter Tryd.func87, Tryd.ntmps87
 go_wp2_with fail
 refine bodyPost_ret (results_tmp rfl _ _ _) rfl ⟨?_, rfl⟩
 exact congrArg (fun z => Ending.returned (.int .u32 z)) (bits_or_comm _ _)
theorem turn_17 (x : Int) (w : World) : Calls Tryd.prog 87 #[.int .u32 x, .int .u64 17] w fun e w' => e = .returned (.int .u32 (rotF x 17)) ∧ w = w' := by
 go_enter Tryd.func87, Tryd.ntmps87
 go_wp2_with fail
 refine bodyPost_ret (results_tmp rfl _ _ _) rfl ⟨?_, rfl⟩
 exact congrArg (fun z => Ending.returned (.int .u32 z)) (bits_or_comm _ _)
theorem turn_19 (x : Int) (w : World) : Calls Tryd.prog 87 #[.int .u32 x, .int .u64 19] w fun e w' => e = .returned (.int .u32 (rotF x 19)) ∧ w = w' := by
 go_enter Tryd.func87, Tryd.ntmps87
 go_wp2_with fail
 refine bodyPost_ret (results_tmp rfl _ _ _) rfl ⟨?_, rfl⟩
 exact congrArg (fun z => Ending.returned (.int .u32 z)) (bits_or_comm _ _)
theorem turn_6 (x : Int) (w : World) : Calls Tryd.prog 87 #[.int .u32 x, .int .u64 6] w fun e w' => e = .returned (.int .u32 (rotF x 6)) ∧ w = w' := by
 go_enter Tryd.func87, Tryd.ntmps87
 go_wp2_with fail
 refine bodyPost_ret (results_tmp rfl _ _ _) rfl ⟨?_, rfl⟩
 exact congrArg (fun z => Ending.returned (.int .u32 z)) (bits_or_comm _ _)
theorem turn_11 (x : Int) (w : World) : Calls Tryd.prog 87 #[.int .u32 x, .int .u64 11] w fun e w' => e = .returned (.int .u32 (rotF x 11)) ∧ w = w' := by
 go_enter Tryd.func87, Tryd.ntmps87
 go_wp2_with fail
 refine bodyPost_ret (results_tmp rfl _ _ _) rfl ⟨?_, rfl⟩
 exact congrArg (fun z => Ending.returned (.int .u32 z)) (bits_or_comm _ _)
theorem turn_25 (x : Int) (w : World) : Calls Tryd.prog 87 #[.int .u32 x, .int .u64 25] w fun e w' => e = .returned (.int .u32 (rotF x 25)) ∧ w = w' := by
 go_enter Tryd.func87, Tryd.ntmps87
 go_wp2_with fail
 refine bodyPost_ret (results_tmp rfl _ _ _) rfl ⟨?_, rfl⟩
 exact congrArg (fun z => Ending.returned (.int .u32 z)) (bits_or_comm _ _)
theorem turn_2 (x : Int) (w : World) : Calls Tryd.prog 87 #[.int .u32 x, .int .u64 2] w fun e w' => e = .returned (.int .u32 (rotF x 2)) ∧ w = w' := by
 go_enter Tryd.func87, Tryd.ntmps87
 go_wp2_with fail
 refine bodyPost_ret (results_tmp rfl _ _ _) rfl ⟨?_, rfl⟩
 exact congrArg (fun z => Ending.returned (.int .u32 z)) (bits_or_comm _ _)
theorem turn_13 (x : Int) (w : World) : Calls Tryd.prog 87 #[.int .u32 x, .int .u64 13] w fun e w' => e = .returned (.int .u32 (rotF x 13)) ∧ w = w' := by
 go_enter Tryd.func87, Tryd.ntmps87
 go_wp2_with fail
 refine bodyPost_ret (results_tmp rfl _ _ _) rfl ⟨?_, rfl⟩
 exact congrArg (fun z => Ending.returned (.int .u32 z)) (bits_or_comm _ _)
theorem turn_22 (x : Int) (w : World) : Calls Tryd.prog 87 #[.int .u32 x, .int .u64 22] w fun e w' => e = .returned (.int .u32 (rotF x 22)) ∧ w = w' := by
 go_enter Tryd.func87, Tryd.ntmps87
 go_wp2_with fail
 refine bodyPost_ret (results_tmp rfl _ _ _) rfl ⟨?_, rfl⟩
 exact congrArg (fun z => Ending.returned (.int .u32 z)) (bits_or_comm _ _)
end Go.Proofs.YthdjgebbjogmiaaDoor
