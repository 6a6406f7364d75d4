/- make([]byte, n) inside a drawn region taken by hand. -/
import Derived.Test.YtoicohcomjnnfaaBytes
import Derived.Test.YtoicohcomjnnfaaArrReg
namespace Go.Proofs.Ytoicohcomjnnfaa
open Go Go.RowKit

theorem wp_make_bytesD {o : Oper} {a : Act} {w : World} {K : Act → World → Prop} {Q : Exit → Act → World → Prop} (d : Nat) (hd : o.dst = some d) (x y : Operand) (ho : o.op = .makeSlice 49 x y)
    (kl kc : IntKind) (n c : Nat) (hx : a.eval x = .int kl (n : Int)) (hy : a.eval y = .int kc (c : Int)) (hnc : n ≤ c) (hc : c ≤ 281474976710656)
    (h : ∀ w', Blk w' w.heap.size 5 (u8s (List.replicate c 0)) → Below w.heap.size w w' → w'.heap.size = w.heap.size + 1 → K (a.put (some d) (.slice (some ⟨w.heap.size, 0, none⟩) n c)) w') : o.wp Try.prog a w K Q := by
  have hr := run_make_bytes w kl kc n c hnc hc
  unfold Oper.wp execOp
  simp only [ho, hx, hy, Sem.run_bind, hr, Result.andThen_ok, Sem.run_pure]
  have h' := h _ (Blk.new w _ _) ((Below.refl _ _).alloc (Nat.le_refl _) _) (by simp)
  rw [← hd] at h'
  exact h'

theorem take_set (l : List Int) (n k : Nat) (x : Int) (hl : l.length = n) (hk : k < n) (hx : l.getD k 0 = x) : (l.take k ++ List.replicate (n - k) 0).set k x = l.take (k + 1) ++ List.replicate (n - (k + 1)) 0 := by
  apply List.ext_getElem (by simp; omega)
  intro i h1 h2
  simp at h1
  rw [List.getElem_set]
  by_cases e : k = i
  · subst e
    rw [if_pos rfl, List.getElem_append_left (by simp; omega), List.getElem_take, ← hx, List.getD_eq_getElem?_getD, List.getElem?_eq_getElem (by omega)]
    rfl
  · rw [if_neg e]
    by_cases hi : i < k
    · rw [List.getElem_append_left (by simp; omega), List.getElem_append_left (by simp; omega), List.getElem_take, List.getElem_take]
    · rw [List.getElem_append_right (by simp; omega), List.getElem_append_right (by simp; omega), List.getElem_replicate, List.getElem_replicate]
end Go.Proofs.Ytoicohcomjnnfaa
