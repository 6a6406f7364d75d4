/- Regions that draw their order, whose calls only lay new blocks and always hand back the same value: one walk serves every order; what operations yield. No condition. -/
import Derived.Test.YtfinfkodjkfibaaDoorOne
import Derived.Deep.Quiet
namespace Go.Proofs.YtfinfkodjkfibaaDoor
open Go Go.RowKit

section
variable {P : Program} {ops : Array Oper} {C : World → Prop} {Q : Act → Prop} {rest : List Oper} {o : Oper} {a : Act}
theorem quiet_go {v : Value} (d : Nat) (hd : o.dst = some d) (hw : Region.wanted o (yielded ops a.tmps) = true) (h0 : ∀ w', C w' → o.quietAt P a C w' v) (h : wpQuiet P ops C Q rest (a.put (some d) v)) : wpQuiet P ops C Q (o :: rest) a := by
  unfold wpQuiet
  rw [if_pos hw]
  exact ⟨v, h0, by rw [hd]; exact h⟩
/-- An operation that yields v in every world of the class. -/
theorem quiet_val {v : Value} (d : Nat) (hd : o.dst = some d) (hw : Region.wanted o (yielded ops a.tmps) = true) (h0 : ∀ w', C w' → (execOp a.eval o).run P w' = .ok (.value v) w') (h : wpQuiet P ops C Q rest (a.put (some d) v)) : wpQuiet P ops C Q (o :: rest) a :=
  quiet_go d hd hw (fun w' hw' => by unfold Oper.quietAt; rw [h0 w' hw']; exact ⟨rfl, rfl⟩) h
/-- A call that hands back v in every world of the class, and leaves one of the class. -/
theorem quiet_call {v : Value} (d : Nat) (hd : o.dst = some d) (hw : Region.wanted o (yielded ops a.tmps) = true) (f : Nat) (args : Array Value) (h0 : ∀ w', (execOp a.eval o).run P w' = .ok (.enter f args) w')
    (hc : ∀ w', C w' → Calls P f args w' fun e w'' => e = .returned v ∧ C w'') (h : wpQuiet P ops C Q rest (a.put (some d) v)) : wpQuiet P ops C Q (o :: rest) a :=
  quiet_go d hd hw (fun w' hw' => by unfold Oper.quietAt; rw [h0 w']; exact ⟨rfl, hc w' hw'⟩) h
end
/-- A call that only lays new blocks, among worlds that have turned nothing old. -/
theorem calls_below {P : Program} {f : Nat} {args : Array Value} {v : Value} {w0 w' : World} (hw : Below w0.heap.size w0 w') (h : Calls P f args w' fun e w'' => e = .returned v ∧ Below w'.heap.size w' w'') :
    Calls P f args w' fun e w'' => e = .returned v ∧ Below w0.heap.size w0 w'' :=
  h.mono fun e w'' ⟨he, hb⟩ => ⟨he, hw.trans (hb.mono hw.size)⟩

set_option maxRecDepth 100000
theorem wp_region_quietC {P : Program} (C : World → Prop) {id : Nat} {Q : Exit → Act → World → Prop} {a : Act} {w : World} {l : List Oper} (hm : P.follows .mixedOrders = true) (hB : Region.lexB .any l.toArray = true) (hC : C w.drew)
    (h : wpQuiet P l.toArray C (fun a' => ∀ w', C w' → Q .normal a' w') l a) : (Code.region id l.toArray true).wp P Q a w :=
  wp_region_quiet (C := C) hm hB hC (by simpa using h)
section
variable {P : Program} {o : Oper} {a : Act} {w : World}
theorem exec_load_one (ty : TypeId) (x : Operand) (ho : o.op = .load ty x) (g off : Nat) (hx : a.eval x = .pointer (some ⟨g, off, none⟩)) (d : TypeDesc) (hu : P.underlying ty = some d) (hd : d.isRow = false) (v : Value) (hc : w.cell? ⟨g, off, none⟩ = some v) :
    (execOp a.eval o).run P w = .ok (.value v) w := by
  unfold execOp
  simp only [ho, hx, Sem.run_bind, run_load_one w g off ty d v hc hu hd, Result.andThen_ok, Sem.run_pure]
theorem exec_index (t : TypeId) (x y : Operand) (ho : o.op = .index t x y) (v i u : Value) (hx : a.eval x = v) (hy : a.eval y = i) (hrun : (Instr.index t v i).run P w = .ok u w) : (execOp a.eval o).run P w = .ok (.value u) w := by
  unfold execOp
  simp only [ho, hx, hy, Sem.run_bind, hrun, Result.andThen_ok, Sem.run_pure]
theorem exec_move (x : Operand) (ho : o.op = .move x) (v : Value) (hx : a.eval x = v) : (execOp a.eval o).run P w = .ok (.value v) w := by
  unfold execOp
  simp only [ho, hx, Sem.run_pure]
theorem exec_assign (x : Operand) (ho : o.op = .assign x) (v : Value) (hx : a.eval x = v) : (execOp a.eval o).run P w = .ok (.value v) w := by
  unfold execOp
  simp only [ho, hx, Sem.run_pure]
end
section
variable {o : Oper} {a : Act} {w : World}
theorem exec_add (x y : Operand) (ho : o.op = .binOp .add 9 x y 9) (s t : ByteArray) (hx : a.eval x = .string s) (hy : a.eval y = .string t) (h : s.size + t.size ≤ 9223372036854775807) : (execOp a.eval o).run Tryd.prog w = .ok (.value (.string (s ++ t))) w := by
  unfold execOp
  simp only [ho, hx, hy]
  go_simp
theorem exec_slice_key (x : Operand) (ho : o.op = .slice 28 x none none none) (g off : Nat) (hx : a.eval x = .pointer (some ⟨g, off, none⟩)) : (execOp a.eval o).run Tryd.prog w = .ok (.value (.slice (some ⟨g, off, none⟩) 16 16)) w := by
  unfold execOp
  simp only [ho, hx]
  go_simp
theorem exec_slice_hash (x : Operand) (ho : o.op = .slice 58 x none none none) (g off : Nat) (hx : a.eval x = .pointer (some ⟨g, off, none⟩)) : (execOp a.eval o).run Tryd.prog w = .ok (.value (.slice (some ⟨g, off, none⟩) 32 32)) w := by
  unfold execOp
  simp only [ho, hx]
  go_simp
theorem exec_call (f : Nat) (xs : Array Operand) (ts : Array TypeId) (ho : o.op = .call { callee := .value (.func f), args := xs, argTypes := ts }) (args : Array Value) (hargs : xs.map a.eval = args) (hf : (callFunc f args).run Tryd.prog w = .ok (.enter f args) w) : (execOp a.eval o).run Tryd.prog w = .ok (.enter f args) w := by
  unfold execOp
  simp only [ho, resolve, Act.eval, invoke, hargs]
  go_simp
end
end Go.Proofs.YtfinfkodjkfibaaDoor
