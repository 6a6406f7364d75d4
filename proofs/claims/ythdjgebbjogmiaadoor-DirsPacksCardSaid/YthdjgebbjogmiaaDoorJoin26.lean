/- Entries in a block: capabilities and the flag written into them; small operations. No condition.
What may only read, only verify: from less to more no way leads. No program in sight.
Entries that may be, made of any: the plain law. No program in sight but for the words.
caps.Slot: a slot's capability, of a seed and a print. Condition: the table of powers of ten stands. -/
import Derived.Test.YthdjgebbjogmiaaDoorJoin25
import Derived.Test.YthdjgebbjogmiaaDoorJoin18
import Derived.Test.YthdjgebbjogmiaaDoorJoin17
import Derived.Test.YthdjgebbjogmiaaDoorJoin12
import Derived.Test.YthdjgebbjogmiaaDoorJoin13
import Derived.Test.YthdjgebbjogmiaaDoorRight
import Derived.Test.YthdjgebbjogmiaaDoorJoin19
import Derived.Test.YthdjgebbjogmiaaDoorCapRO
set_option linter.unusedVariables false
set_option linter.unusedSimpArgs false
namespace Go.Proofs.YthdjgebbjogmiaaDoor
open Go Go.RowKit
set_option linter.unusedVariables false
set_option maxRecDepth 100000
section
variable {e : EntD} {x y : Value}
theorem ent_setRead (h1 : LenE e) (c : CapD) (l : Value) (hk : c.key.length = 16) (hf : c.fp.length = 32) : lset (entC e x y) 1 (capCells c l) = entC { e with read := c } l y := by
 have := lset_app (capCells c l) [Value.string (strOfNums e.name)] (capCells e.write y ++ [.bool e.has]) (capCells e.read x) (by rw [cc_len x h1.rk h1.rf, cc_len l hk hf])
 exact this
theorem ent_setWrite (h1 : LenE e) (h2 : LenW e) (c : CapD) (l : Value) (hk : c.key.length = 16) (hf : c.fp.length = 32) : lset (entC e x y) 54 (capCells c l) = entC { e with write := c } x l := by
 have := lset_app (capCells c l) (Value.string (strOfNums e.name) :: capCells e.read x) [.bool e.has] (capCells e.write y) (by rw [cc_len y h2.wk h2.wf, cc_len l hk hf])
 rw [List.length_cons, cc_len x h1.rk h1.rf] at this
 exact this
theorem ent_setHas (h1 : LenE e) (h2 : LenW e) (b : Bool) : (entC e x y).set 107 (.bool b) = entC { e with has := b } x y := by
 unfold entC
 rw [List.set_cons_succ, List.set_append_right _ _ (by rw [cc_len x h1.rk h1.rf]; omega), cc_len x h1.rk h1.rf, List.set_append_right _ _ (by rw [cc_len y h2.wk h2.wf]; omega), cc_len y h2.wk h2.wf]
 rfl
theorem cap_ones {c : CapD} {l : Value} (h : l.oneCell' = true) : ∀ u ∈ capCells c l, u.oneCell' = true := cc_ones h
theorem size_capL {c : CapD} {l : Value} (hk : c.key.length = 16) (hf : c.fp.length = 32) : (Tryd.prog.info? 28).map (·.size) = some (capCells c l).length := by rw [cc_len l hk hf]; exact size_cap
theorem size_entL {e : EntD} {x y : Value} (h1 : LenE e) (h2 : LenW e) : (Tryd.prog.info? 45).map (·.size) = some (entC e x y).length := by rw [ent_lenL h1 h2]; exact size_ent
theorem none_LE : LenE EntD.none_ ∧ LenW EntD.none_ := ⟨⟨rfl, rfl⟩, ⟨rfl, rfl⟩⟩
theorem EntD.Wf.lens {e : EntD} (h : e.Wf) : LenE e ∧ LenW e := ⟨⟨h.rWf.keyL, h.rWf.fpL⟩, ⟨h.wWf.keyL, h.wWf.fpL⟩⟩
end
theorem Own8.past_ {w w' : World} {base g : Nat} {v : Value} {xs : List Int} {t : TypeId} {cs : List Value} (h : Own8 w base v xs) (hk : Blk w g t cs) (ht : (t == 5) = false) (hg : w.grownBy w' (some g)) : Own8 w' base v xs := by
 refine World.ownsRow.kept h hg ?_
 rcases h.2 with ⟨rfl, _⟩ | ⟨g', cap', cur', rfl, _, hh, _⟩
 · exact .inl rfl
 · refine .inr fun e => ?_
   simp [Value.ownBlock] at e
   subst e
   have hk' : w.heap[g']? = _ := hk
   rw [hh] at hk'
   injection hk' with hh'
   injection hh' with _ ht' _
   subst ht'
   cases ht
theorem built_entN (s : ByteArray) : Tryd.prog.built 45 [(0, .string s)] = some (Value.string s :: (capCells CapD.none_ (.slice none 0 0) ++ (capCells CapD.none_ (.slice none 0 0) ++ [.bool false]))).toArray := by kernel_rfl
section
variable {o : Oper} {a : Act} {w : World} {K : Act → World → Prop} {Q : Exit → Act → World → Prop}
theorem exec_int_u8 (x : Operand) (p : Int) (hx : a.eval x = .int .i64 p) (ho : o.op = .convert 3 5 x) (h0 : 0 ≤ p) (h1 : p < 256) : (execOp a.eval o).run Tryd.prog w = .ok (.value (.int .u8 p)) w := by
 unfold execOp
 simp only [ho, hx]
 go_simp
 have e : IntKind.u8.wrap p = p := by
  simp only [IntKind.wrap, IntKind.signed, IntKind.bits]
  simp
  omega
 first | rw [e] | simp [e]
theorem exec_minG (x y : Operand) (ho : o.op = .call { callee := .builtin .min, args := #[x, y], argTypes := #[3, 3] }) (p q z : Int) (hx : a.eval x = .int .i64 p) (hy : a.eval y = .int .i64 q) (hz : min p q = z) : (execOp a.eval o).run Tryd.prog w = .ok (.value (.int .i64 z)) w := by
 subst hz
 unfold execOp
 simp only [ho, resolve, invoke, builtin, Sem.run_bind, Sem.run_pure, Result.andThen_ok, List.map_toArray, List.map_cons, List.map_nil, hx, hy]
 go_simp
theorem wp_alloc_blkG {P : Program} (t d : Nat) (ho : o.op = .alloc t) (hd : o.dst = some d) (cs : List Value)
 (hz : (P.info? t).map (·.zero) = some (some (.agg cs.toArray)))
 (h : ∀ g w', w.heap.size ≤ g → Blk w' g t cs → Below w.heap.size w w' → K (a.put (some d) (.pointer (some ⟨g, 0, none⟩))) w') : o.wp P a w K Q :=
 wp_alloc_blkD t d ho hd cs hz fun w' h1 h2 _ => h _ w' (Nat.le_refl _) h1 h2
end
end Go.Proofs.YthdjgebbjogmiaaDoor

namespace Go.Proofs.YthdjgebbjogmiaaDoor
open Go Go.RowKit
set_option maxRecDepth 100000

theorem writeF_valid {c : CapD} (h : c.Valid) : writeF c = decide (c.kind = 4 ∨ c.kind = 7) := by
 unfold writeF
 rw [decide_eq_true h, Bool.eq_iff_iff]
 simp
end Go.Proofs.YthdjgebbjogmiaaDoor

namespace Go.Proofs.YthdjgebbjogmiaaDoor
open Go Go.RowKit
set_option maxRecDepth 100000
set_option linter.unusedVariables false
def rcapE (x : EntD) : CapD := if (!readF (rightF x.read)) || x.has then slotF x.read.key x.read.fp else rightF x.read
def rightE (i : Nat) (x : EntD) : EntD := ⟨(97 + (i : Int)) :: x.name.take 10, roF (rcapE x), if writeF (rcapE x) && x.has then rcapE x else CapD.none_, writeF (rcapE x) && x.has⟩
def rightsN (l : List EntD) (k : Nat) : List EntD := (List.range k).map fun i => rightE i (l.getD i EntD.none_)
def rightsL (l : List EntD) : List EntD := rightsN l (min l.length 6)
theorem rightsN_snoc (l : List EntD) (k : Nat) (h : k < l.length) : rightsN l (k + 1) = rightsN l k ++ [rightE k l[k]] := by
 unfold rightsN
 rw [List.range_succ, List.map_append, List.map_singleton, List.getD_eq_getElem?_getD, List.getElem?_eq_getElem h]
 rfl
theorem rightsN_len (l : List EntD) (k : Nat) : (rightsN l k).length = k := by simp [rightsN]
theorem slotF_valid (k f : List Int) : (slotF k f).Valid := .inr (.inr ⟨by show (4 : Int) ≤ 4; omega, by show (4 : Int) ≤ 9; omega, rfl, rfl, rfl, rfl⟩)
theorem slotF_write (k f : List Int) : writeF (slotF k f) = true := by rw [writeF_valid (slotF_valid k f)]; rfl
theorem slotF_wf {k f : List Int} (h : f.length = 32) (hb : Bytes f) : (slotF k f).Wf := ⟨keyF_len _ _, keyF_bytes _ _, h, hb, fun x hx => by cases hx⟩
theorem rcap_wf {x : EntD} (h : x.Wf) : (rcapE x).Wf := by
 unfold rcapE
 split
 · exact slotF_wf h.rWf.fpL h.rWf.fpB
 · exact right_wf h.rWf
theorem rightE_wf {i : Nat} (hi : i < 6) {x : EntD} (h : x.Wf) : (rightE i x).Wf := ⟨fun y hy => by
 rcases List.mem_cons.1 hy with rfl | hy
 · omega
 · exact h.nameB y (List.mem_of_mem_take hy), roF_wf (rcap_wf h), by
 unfold rightE
 dsimp only
 split
 · exact rcap_wf h
 · exact CapD.none_wf⟩
theorem rights_mem {l : List EntD} {e : EntD} (h : e ∈ rightsL l) : ∃ i, i < 6 ∧ ∃ x ∈ l, e = rightE i x := by
 unfold rightsL rightsN at h
 obtain ⟨i, hi, rfl⟩ := List.mem_map.1 h
 have hi' := List.mem_range.1 hi
 refine ⟨i, by omega, l[i]'(by omega), List.getElem_mem _, ?_⟩
 rw [List.getD_eq_getElem?_getD, List.getElem?_eq_getElem (by omega)]
 rfl
theorem rights_lit {l : List EntD} : ∀ e ∈ rightsL l, e.read.lit.length ≤ 1000000 ∧ e.write.lit.length ≤ 1000000 := fun e he => by
 obtain ⟨i, hi, x, hx, rfl⟩ := rights_mem he
 have h1 : (roF (rcapE x)).lit.length ≤ 64 := roF_lit_le
 refine ⟨by show (roF (rcapE x)).lit.length ≤ _; omega, ?_⟩
 unfold rightE
 dsimp only
 split
 · rename_i hw
   rw [Bool.and_eq_true] at hw
   have := (writeF_kind hw.1).2.2
   rw [this]
   simp
 · simp [CapD.none_]
end Go.Proofs.YthdjgebbjogmiaaDoor

namespace Go.Proofs.YthdjgebbjogmiaaDoor
open Go Go.RowKit
set_option linter.unusedVariables false
set_option linter.unusedSimpArgs false
set_option maxRecDepth 100000
set_option maxHeartbeats 8000000
theorem list16 (l : List Int) (h : l.length = 16) : ∃ a0 a1 a2 a3 a4 a5 a6 a7 a8 a9 a10 a11 a12 a13 a14 a15 : Int, l = [a0, a1, a2, a3, a4, a5, a6, a7, a8, a9, a10, a11, a12, a13, a14, a15] := by
 match l, h with
 | [a0, a1, a2, a3, a4, a5, a6, a7, a8, a9, a10, a11, a12, a13, a14, a15], _ => exact ⟨a0, a1, a2, a3, a4, a5, a6, a7, a8, a9, a10, a11, a12, a13, a14, a15, rfl⟩
theorem built_slot48 (a0 a1 a2 a3 a4 a5 a6 a7 a8 a9 a10 a11 a12 a13 a14 a15 b0 b1 b2 b3 b4 b5 b6 b7 b8 b9 b10 b11 b12 b13 b14 b15 c0 c1 c2 c3 c4 c5 c6 c7 c8 c9 c10 c11 c12 c13 c14 c15 : Int) : Tryd.prog.built 28 [(0, .int .i64 4), (1, .agg (u8s [a0, a1, a2, a3, a4, a5, a6, a7, a8, a9, a10, a11, a12, a13, a14, a15]).toArray), (2, .agg (u8s [b0, b1, b2, b3, b4, b5, b6, b7, b8, b9, b10, b11, b12, b13, b14, b15, c0, c1, c2, c3, c4, c5, c6, c7, c8, c9, c10, c11, c12, c13, c14, c15]).toArray)] = some (capCells ⟨4, [a0, a1, a2, a3, a4, a5, a6, a7, a8, a9, a10, a11, a12, a13, a14, a15], [b0, b1, b2, b3, b4, b5, b6, b7, b8, b9, b10, b11, b12, b13, b14, b15, c0, c1, c2, c3, c4, c5, c6, c7, c8, c9, c10, c11, c12, c13, c14, c15], 0, 0, 0, []⟩ (.slice none 0 0)).toArray := by kernel_rfl
theorem built_slot (k f : List Int) (hk : k.length = 16) (hf : f.length = 32) : Tryd.prog.built 28 [(0, .int .i64 4), (1, .agg (u8s k).toArray), (2, .agg (u8s f).toArray)] = some (capCells ⟨4, k, f, 0, 0, 0, []⟩ (.slice none 0 0)).toArray := by
 obtain ⟨a0, a1, a2, a3, a4, a5, a6, a7, a8, a9, a10, a11, a12, a13, a14, a15, rfl⟩ := list16 k hk
 have e : f = f.take 16 ++ f.drop 16 := (List.take_append_drop 16 f).symm
 obtain ⟨b0, b1, b2, b3, b4, b5, b6, b7, b8, b9, b10, b11, b12, b13, b14, b15, e1⟩ := list16 (f.take 16) (by rw [List.length_take, hf]; rfl)
 obtain ⟨c0, c1, c2, c3, c4, c5, c6, c7, c8, c9, c10, c11, c12, c13, c14, c15, e2⟩ := list16 (f.drop 16) (by rw [List.length_drop, hf])
 rw [e1, e2] at e
 subst e
 exact built_slot48 a0 a1 a2 a3 a4 a5 a6 a7 a8 a9 a10 a11 a12 a13 a14 a15 b0 b1 b2 b3 b4 b5 b6 b7 b8 b9 b10 b11 b12 b13 b14 b15 c0 c1 c2 c3 c4 c5 c6 c7 c8 c9 c10 c11 c12 c13 c14 c15
theorem exec_build_slot {o : Oper} {a : Act} {w : World} (x y : Operand) (ho : o.op = .build 28 #[(0, .const (.int .i64 4)), (1, x), (2, y)]) (k f : List Int) (hx : a.eval x = .agg (u8s k).toArray) (hy : a.eval y = .agg (u8s f).toArray) (hk : k.length = 16) (hf : f.length = 32) :
 (execOp a.eval o).run Tryd.prog w = .ok (.value (capV ⟨4, k, f, 0, 0, 0, []⟩ (.slice none 0 0))) w := by
 have hm : ((#[(0, .const (.int .i64 4)), (1, x), (2, y)] : Array (Nat × Operand)).map fun (i, x) => (i, a.eval x)).toList = [(0, .int .i64 4), (1, .agg (u8s k).toArray), (2, .agg (u8s f).toArray)] := by
  have hc : a.eval (.const (.int .i64 4)) = .int .i64 4 := rfl
  simp [hx, hy, hc]
 have hr := run_build (P := Tryd.prog) w 28 ((#[(0, .const (.int .i64 4)), (1, x), (2, y)] : Array (Nat × Operand)).map fun (i, x) => (i, a.eval x)) _ (by rw [hm]; exact built_slot k f hk hf)
 unfold execOp
 simp only [ho, Sem.run_bind, hr, Result.andThen_ok, Sem.run_pure]
 rfl
end Go.Proofs.YthdjgebbjogmiaaDoor
