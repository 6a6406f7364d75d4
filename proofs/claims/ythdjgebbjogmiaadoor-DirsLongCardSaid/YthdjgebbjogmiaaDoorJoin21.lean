/- Names cut and joined; entries cut. No condition.
Worlds that grew, and grew again. No condition.
Entries in a block: capabilities and the flag written into them; small operations. No condition. -/
import Derived.Test.YthdjgebbjogmiaaDoorJoin19
import Derived.Test.YthdjgebbjogmiaaDoorJoin18
import Derived.Test.YthdjgebbjogmiaaDoorBase
import Derived.Test.YthdjgebbjogmiaaDoorJoin17
import Derived.Test.YthdjgebbjogmiaaDoorJoin16
namespace Go.Proofs.YthdjgebbjogmiaaDoor
open Go Go.RowKit
set_option maxRecDepth 100000
theorem strOf_take (xs : List Int) (n : Nat) : (strOfNums xs).extract 0 n = strOfNums (xs.take n) := by
  apply ByteArray.ext
  apply Array.ext'
  simp [strOfNums]
theorem strOf_app (xs ys : List Int) : strOfNums xs ++ strOfNums ys = strOfNums (xs ++ ys) := by
  apply ByteArray.ext
  apply Array.ext'
  simp [strOfNums]
section
variable {o : Oper} {a : Act} {w : World}
theorem exec_slice_name (x : Operand) (y : Operand) (ho : o.op = .slice 9 x none (some y) none) (xs : List Int) (hx : a.eval x = .string (strOfNums xs)) (n : Nat) (hy : a.eval y = .int .i64 (n : Int)) (hn : n ≤ xs.length) :
    (execOp a.eval o).run Tryd.prog w = .ok (.value (.string (strOfNums (xs.take n)))) w := by
  unfold execOp
  simp only [ho, hx, hy, Option.map_some, Option.map_none]
  have h := run_slice_string_h w 9 (strOfNums xs) Tryd.underlying9 .i64 (n : Int) (by omega) (by rw [strOfNums_size]; omega)
  rw [Int.toNat_natCast, strOf_take] at h
  simp only [Sem.run_bind, run_sliceAt_string _ _ _ _ _ _ Tryd.underlying9, h, Result.andThen_ok]
  rfl
theorem exec_len_strM (x : Operand) (ho : o.op = .call { callee := .builtin .len, args := #[x], argTypes := #[9] }) (nm : List Int) (hx : a.eval x = .string (strOfNums nm)) : (execOp a.eval o).run Tryd.prog w = .ok (.value (.int .i64 (nm.length : Int))) w := by
  unfold execOp
  simp only [ho, resolve, invoke, builtin, Sem.run_bind, Sem.run_pure, Result.andThen_ok, List.map_toArray, List.map_cons, List.map_nil, hx]
  simp [Builtin.len_, run_underlying Tryd.underlying9, goInt, strOfNums_size]
end
theorem CapD.Wf.cut {c : CapD} (h : c.Wf) (n : Nat) : CapD.Wf { c with lit := c.lit.take n } := ⟨h.keyL, h.keyB, h.fpL, h.fpB, fun x hx => h.litB x (List.mem_of_mem_take hx)⟩
/-- An entry that is small enough to be played. -/
def cutE (e : EntD) : EntD := ⟨e.name.take 70, { e.read with lit := e.read.lit.take 70 }, { e.write with lit := e.write.lit.take 70 }, e.has⟩
def cutEnts (l : List EntD) : List EntD := (l.take 18).map cutE
theorem cutE_wf {e : EntD} (h : e.Wf) : (cutE e).Wf := ⟨fun x hx => h.nameB x (List.mem_of_mem_take hx), h.rWf.cut 70, h.wWf.cut 70⟩
theorem cutE_lit (e : EntD) : (cutE e).read.lit.length ≤ 70 ∧ (cutE e).write.lit.length ≤ 70 := ⟨List.length_take_le _ _, List.length_take_le _ _⟩
theorem cutEnts_lit (l : List EntD) : ∀ e ∈ cutEnts l, e.read.lit.length ≤ 1000000 ∧ e.write.lit.length ≤ 1000000 := fun e he => by
  obtain ⟨x, _, rfl⟩ := List.mem_map.1 he
  have := cutE_lit x
  omega
theorem cutEnts_len (l : List EntD) : (cutEnts l).length ≤ 18 := by unfold cutEnts; rw [List.length_map]; exact List.length_take_le _ _
theorem cutEnts_wf {l : List EntD} (h : ∀ e ∈ l, e.Wf) : ∀ e ∈ cutEnts l, e.Wf := fun e he => by
  obtain ⟨x, hx, rfl⟩ := List.mem_map.1 he
  exact cutE_wf (h x (List.mem_of_mem_take hx))
theorem cutEnts_at (l : List EntD) (i : Nat) (h : i < l.length) : (l.take (i + 1)).map cutE = (l.take i).map cutE ++ [cutE l[i]] := by
  rw [List.take_succ_eq_append_getElem h, List.map_append]
  rfl
theorem ent_setName {e : EntD} {la lb : Value} (nm : List Int) : (entC e la lb).set 0 (.string (strOfNums nm)) = entC { e with name := nm } la lb := rfl
theorem ent_cut {e : EntD} {nm : List Int} {la lb : Value} : entC { e with name := nm } la lb = entC ⟨nm, { e.read with lit := e.read.lit.take 70 }, { e.write with lit := e.write.lit.take 70 }, e.has⟩ la lb := rfl
end Go.Proofs.YthdjgebbjogmiaaDoor

namespace Go.Proofs.YthdjgebbjogmiaaDoor
open Go Go.RowKit
set_option maxRecDepth 100000
theorem World.grownBy.drewG (w : World) (r : Option Nat) : w.grownBy w.drew r := ⟨rfl, rfl, rfl, Nat.le_refl _, fun _ _ _ => rfl⟩
theorem World.grownBy.transG {a b c : World} {r : Option Nat} (h : a.grownBy b r) (h' : b.grownBy c r) : a.grownBy c r :=
  ⟨h'.os.trans h.os, h'.tape.trans h.tape, h'.output.trans h.output, Nat.le_trans h.size h'.size, fun k hk hne => by rw [h'.block k (Nat.lt_of_lt_of_le hk h.size) hne, h.block k hk hne]⟩
theorem Below.toGrown {w w' : World} (h : Below w.heap.size w w') (r : Option Nat) : w.grownBy w' r := ⟨h.os, h.tape, h.output, h.size, fun k hk _ => h.block k hk⟩
end Go.Proofs.YthdjgebbjogmiaaDoor

namespace Go.Proofs.YthdjgebbjogmiaaDoor
open Go Go.RowKit
set_option linter.unusedVariables false
set_option maxRecDepth 100000
section
variable {e : EntD} {x y : Value}
theorem ent_setRead (h1 : LenE e) (c : CapD) (l : Value) (hk : c.key.length = 16) (hf : c.fp.length = 32) : lset (entC e x y) 1 (capCells c l) = entC { e with read := c } l y := by
  have := lset_app (capCells c l) [Value.string (strOfNums e.name)] (capCells e.write y ++ [.bool e.has]) (capCells e.read x) (by rw [cc_len x h1.rk h1.rf, cc_len l hk hf])
  exact this
theorem ent_setWrite (h1 : LenE e) (h2 : LenW e) (c : CapD) (l : Value) (hk : c.key.length = 16) (hf : c.fp.length = 32) : lset (entC e x y) 54 (capCells c l) = entC { e with write := c } x l := by
  have := lset_app (capCells c l) (Value.string (strOfNums e.name) :: capCells e.read x) [.bool e.has] (capCells e.write y) (by rw [cc_len y h2.wk h2.wf, cc_len l hk hf])
  rw [List.length_cons, cc_len x h1.rk h1.rf] at this
  exact this
theorem ent_setHas (h1 : LenE e) (h2 : LenW e) (b : Bool) : (entC e x y).set 107 (.bool b) = entC { e with has := b } x y := by
  unfold entC
  rw [List.set_cons_succ, List.set_append_right _ _ (by rw [cc_len x h1.rk h1.rf]; omega), cc_len x h1.rk h1.rf, List.set_append_right _ _ (by rw [cc_len y h2.wk h2.wf]; omega), cc_len y h2.wk h2.wf]
  rfl
theorem cap_ones {c : CapD} {l : Value} (h : l.oneCell' = true) : ∀ u ∈ capCells c l, u.oneCell' = true := cc_ones h
theorem size_capL {c : CapD} {l : Value} (hk : c.key.length = 16) (hf : c.fp.length = 32) : (Tryd.prog.info? 28).map (·.size) = some (capCells c l).length := by rw [cc_len l hk hf]; exact size_cap
theorem size_entL {e : EntD} {x y : Value} (h1 : LenE e) (h2 : LenW e) : (Tryd.prog.info? 45).map (·.size) = some (entC e x y).length := by rw [ent_lenL h1 h2]; exact size_ent
theorem none_LE : LenE EntD.none_ ∧ LenW EntD.none_ := ⟨⟨rfl, rfl⟩, ⟨rfl, rfl⟩⟩
theorem EntD.Wf.lens {e : EntD} (h : e.Wf) : LenE e ∧ LenW e := ⟨⟨h.rWf.keyL, h.rWf.fpL⟩, ⟨h.wWf.keyL, h.wWf.fpL⟩⟩
end
theorem Own8.past_ {w w' : World} {base g : Nat} {v : Value} {xs : List Int} {t : TypeId} {cs : List Value} (h : Own8 w base v xs) (hk : Blk w g t cs) (ht : (t == 5) = false) (hg : w.grownBy w' (some g)) : Own8 w' base v xs := by
  refine World.ownsRow.kept h hg ?_
  rcases h.2 with ⟨rfl, _⟩ | ⟨g', cap', cur', rfl, _, hh, _⟩
  · exact .inl rfl
  · refine .inr fun e => ?_
    simp [Value.ownBlock] at e
    subst e
    have hk' : w.heap[g']? = _ := hk
    rw [hh] at hk'
    injection hk' with hh'
    injection hh' with _ ht' _
    subst ht'
    cases ht
theorem built_entN (s : ByteArray) : Tryd.prog.built 45 [(0, .string s)] = some (Value.string s :: (capCells CapD.none_ (.slice none 0 0) ++ (capCells CapD.none_ (.slice none 0 0) ++ [.bool false]))).toArray := by kernel_rfl
section
variable {o : Oper} {a : Act} {w : World} {K : Act → World → Prop} {Q : Exit → Act → World → Prop}
theorem exec_int_u8 (x : Operand) (p : Int) (hx : a.eval x = .int .i64 p) (ho : o.op = .convert 3 5 x) (h0 : 0 ≤ p) (h1 : p < 256) : (execOp a.eval o).run Tryd.prog w = .ok (.value (.int .u8 p)) w := by
  unfold execOp
  simp only [ho, hx]
  go_simp
  have e : IntKind.u8.wrap p = p := by
    simp only [IntKind.wrap, IntKind.signed, IntKind.bits]
    simp
    omega
  first | rw [e] | simp [e]
theorem exec_minG (x y : Operand) (ho : o.op = .call { callee := .builtin .min, args := #[x, y], argTypes := #[3, 3] }) (p q z : Int) (hx : a.eval x = .int .i64 p) (hy : a.eval y = .int .i64 q) (hz : min p q = z) : (execOp a.eval o).run Tryd.prog w = .ok (.value (.int .i64 z)) w := by
  subst hz
  unfold execOp
  simp only [ho, resolve, invoke, builtin, Sem.run_bind, Sem.run_pure, Result.andThen_ok, List.map_toArray, List.map_cons, List.map_nil, hx, hy]
  go_simp
theorem wp_alloc_blkG {P : Program} (t d : Nat) (ho : o.op = .alloc t) (hd : o.dst = some d) (cs : List Value)
    (hz : (P.info? t).map (·.zero) = some (some (.agg cs.toArray)))
    (h : ∀ g w', w.heap.size ≤ g → Blk w' g t cs → Below w.heap.size w w' → K (a.put (some d) (.pointer (some ⟨g, 0, none⟩))) w') : o.wp P a w K Q :=
  wp_alloc_blkD t d ho hd cs hz fun w' h1 h2 _ => h _ w' (Nat.le_refl _) h1 h2
end
end Go.Proofs.YthdjgebbjogmiaaDoor
