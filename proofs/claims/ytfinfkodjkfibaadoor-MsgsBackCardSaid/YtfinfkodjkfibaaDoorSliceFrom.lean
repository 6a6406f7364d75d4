/- A slice of rows from a place on. No condition. -/
import Derived.Test.YtfinfkodjkfibaaDoorRowsB
import Derived.Test.YtfinfkodjkfibaaDoorSym
namespace Go.Proofs.YtfinfkodjkfibaaDoor
open Go Go.RowKit
set_option linter.unusedVariables false
set_option linter.unusedSimpArgs false
set_option maxRecDepth 100000
section
variable {o : Oper} {a : Act} {w : World}
theorem exec_slice_from (t e : TypeId) (size : Nat) (ht : Tryd.prog.underlying t = some (.slice e)) (hs : (Tryd.prog.info? e).map (·.size) = some size) (x y : Operand) (ho : o.op = .slice t x (some y) none none) (A : Option Addr) (n c k : Nat) (hx : a.eval x = .slice A n c) (hy : a.eval y = .int .i64 (k : Int)) (hk : k ≤ n) :
    (execOp a.eval o).run Tryd.prog w = .ok (.value (sliced A k n c size)) w := by
  unfold execOp
  rcases hi : Tryd.prog.info? e with _ | i
  · rw [hi] at hs; cases hs
  rw [hi] at hs
  injection hs with hs
  have h0 : (0 : Int) ≤ (k : Int) ∧ (k : Int) ≤ (n : Int) := by omega
  simp only [ho, hx, hy, Option.map_some, Option.map_none, Sem.run_bind, Instr.sliceAt, run_underlying ht, Result.andThen_ok]
  simp [Instr.slice, run_underlying ht, Instr.sliceBounds, Instr.sliceBound, asIntOf, h0, sizeOf, typeInfo, hi, sliced, hk, show i.size = size from hs]
theorem exec_slice_to (t e : TypeId) (size : Nat) (ht : Tryd.prog.underlying t = some (.slice e)) (hs : (Tryd.prog.info? e).map (·.size) = some size) (x y : Operand) (ho : o.op = .slice t x none (some y) none) (A : Option Addr) (n c k : Nat) (hx : a.eval x = .slice A n c) (hy : a.eval y = .int .i64 (k : Int)) (hk : k ≤ c) :
    (execOp a.eval o).run Tryd.prog w = .ok (.value (.slice A k c)) w := by
  have e0 : sliced A 0 k c size = .slice A k c := by
    unfold sliced
    cases A with
    | none => simp
    | some a => simp [Addr.add]
  rw [← e0]
  unfold execOp
  rcases hi : Tryd.prog.info? e with _ | i
  · rw [hi] at hs; cases hs
  rw [hi] at hs
  injection hs with hs
  have h0 : (0 : Int) ≤ (k : Int) ∧ (k : Int) ≤ (c : Int) := by omega
  simp only [ho, hx, hy, Option.map_some, Option.map_none, Sem.run_bind, Instr.sliceAt, run_underlying ht, Result.andThen_ok]
  simp [Instr.slice, run_underlying ht, Instr.sliceBounds, Instr.sliceBound, asIntOf, h0, sizeOf, typeInfo, hi, sliced, hk, show i.size = size from hs]
theorem exec_mulG (x y : Operand) (t' : TypeId) (ho : o.op = .binOp .mul 3 x y t') (p q z : Int) (hx : a.eval x = .int .i64 p) (hy : a.eval y = .int .i64 q) (hz : p * q = z) (hb : -9223372036854775808 ≤ p * q ∧ p * q ≤ 9223372036854775807) : (execOp a.eval o).run Tryd.prog w = .ok (.value (.int .i64 z)) w := by
  obtain ⟨h1, h2⟩ := hb
  unfold execOp
  simp only [ho, hx, hy]
  rw [hz] at h1 h2
  go_simp
  exact IntWalk.i64_in _ (by omega)
end
theorem RowsB.cutAt {w : World} {B b o L c k n' : Nat} {rows : List (List Int)} (h : RowsB w B (.slice (some ⟨b, o, none⟩) L c) rows) (hk : k < L) (hn : n' = L - k) : RowsB w B (.slice (some ⟨b, o + k, none⟩) n' (c - k)) (rows.drop k) := by
  subst hn
  obtain ⟨vs, ⟨A, c', e, h1, h2, h4, h3⟩, hl, hr⟩ := h
  injection e with e1 e2 e3
  subst e1 e2 e3
  refine ⟨vs.drop k, ⟨_, c - k, by rw [List.length_drop], by rw [List.length_drop]; omega, by omega, by rw [List.length_drop, List.length_drop]; omega, fun hp => ?_⟩, by rw [List.length_drop, List.length_drop]; omega, fun i hi => ?_⟩
  · obtain ⟨b', o', e, hb, hcc⟩ := h3 (by omega)
    injection e with e
    injection e with e4 e5 e6
    subst e4 e5
    refine ⟨b, o + k, rfl, hb, fun j u hu => ?_⟩
    rw [show o + k + j = o + (k + j) by omega]
    exact hcc (k + j) u (by rw [List.getElem?_drop] at hu; exact hu)
  · rw [List.length_drop] at hi
    obtain ⟨u, hu, hx⟩ := hr (k + i) (by omega)
    exact ⟨u, by rw [List.getElem?_drop]; exact hu, by rw [List.getElem_drop]; exact hx⟩
end Go.Proofs.YtfinfkodjkfibaaDoor
