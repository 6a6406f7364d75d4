/- Helps for regions that draw their order. -/
import Derived.Test.YtgjepahhbecljaaDoorArrNew
namespace Go.Proofs.YtgjepahhbecljaaDoor
open Go Go.RowKit

theorem grown_drew {w w' : World} {row : Option Nat} (h : w.grownBy w' row) : w.grownBy w'.drew row := ⟨h.os, h.tape, h.output, h.size, h.block⟩
theorem grown_of_below {w w' : World} {B : Nat} (hb : Below B w w') (h : w.heap.size ≤ B) (row : Option Nat := none) : w.grownBy w' row :=
  ⟨hb.os, hb.tape, hb.output, hb.size, fun k hk _ => hb.block k (by omega)⟩
section
variable {P : Program}
theorem wp_alloc_blkD {o : Oper} {a : Act} {w : World} {K : Act → World → Prop} {Q : Exit → Act → World → Prop} (t d : Nat) (ho : o.op = .alloc t) (hd : o.dst = some d) (cs : List Value)
    (hz : (P.info? t).map (·.zero) = some (some (.agg cs.toArray)))
    (h : ∀ w', Blk w' w.heap.size t cs → Below w.heap.size w w' → w'.heap.size = w.heap.size + 1 → K (a.put (some d) (.pointer (some ⟨w.heap.size, 0, none⟩))) w') : o.wp P a w K Q :=
  wp_alloc_blk t ho cs hz fun w' h1 h2 h3 => by rw [hd]; exact h w' h1 h2 h3
theorem wp_store_blkD {op : Oper} {a : Act} {w : World} {K : Act → World → Prop} {Q : Exit → Act → World → Prop} (ty : TypeId) (x y : Operand) (ho : op.op = .store ty x y) (hd : op.dst = none)
    (g o : Nat) (vs : List Value) (hx : a.eval x = .pointer (some ⟨g, o, none⟩)) (hy : a.eval y = .agg vs.toArray) (t : TypeId) (cs : List Value) (hg : Blk w g t cs) (hn : o + vs.length ≤ cs.length)
    (hi : (P.info? ty).map (·.size) = some vs.length) (h1 : ∀ u ∈ vs, u.oneCell' = true)
    (h : ∀ w', Blk w' g t (lset cs o vs) → w.grownBy w' (some g) → w'.heap.size = w.heap.size → K a w') : op.wp P a w K Q :=
  wp_store_blk ty x y ho g o vs hx hy t cs hg hn hi h1 fun w' a1 a2 a3 => by rw [hd]; exact h w' a1 a2 a3
end

end Go.Proofs.YtgjepahhbecljaaDoor
