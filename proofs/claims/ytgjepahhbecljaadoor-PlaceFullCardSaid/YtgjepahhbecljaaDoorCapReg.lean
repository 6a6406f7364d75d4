/- A whole capability read, written inside a region that draws its order. No condition. -/
import Derived.Test.YtgjepahhbecljaaDoorRight
import Derived.Deep.RegionHeld3
namespace Go.Proofs.YtgjepahhbecljaaDoor
open Go Go.RowKit
set_option linter.unusedVariables false

section
variable {o : Oper} {a : Act} {w : World} {K : Act → World → Prop} {Q : Exit → Act → World → Prop} {g : Nat} {c : CapD} {lit : Value}
theorem wp_cap_allD (d : Nat) (hd : o.dst = some d) (x : Operand) (ho : o.op = .load 28 x) (hx : a.eval x = .pointer (some ⟨g, 0, none⟩)) (hB : CapB w g c lit) (h : K (a.put (some d) (capV c lit)) w) : o.wp Tryd.prog a w K Q :=
  wp_load_mid _ x ho g 0 hx _ _ (blk_range hB.blk 0 _ (fun j u hu => by rw [Nat.zero_add]; exact hu)) Tryd.underlying28 rfl (by rw [cc_len lit hB.keyL hB.fpL]; exact size_cap) (by rw [hd]; exact h)
theorem wp_cap_putAllD (hd : o.dst = none) (x y : Operand) (ho : o.op = .store 28 x y) (hx : a.eval x = .pointer (some ⟨g, 0, none⟩)) (hB : CapB w g c lit) (c' : CapD) (l' : Value) (hy : a.eval y = capV c' l')
    (h1 : c'.key.length = 16) (h2 : c'.fp.length = 32) (h3 : l'.oneCell' = true)
    (h : ∀ w', CapB w' g c' l' → w.grownBy w' (some g) → w'.heap.size = w.heap.size → K (a.put none undef) w') : o.wp Tryd.prog a w K Q :=
  wp_store_blk _ x y ho g 0 (capCells c' l') hx hy _ _ hB.blk (by rw [cc_len lit hB.keyL hB.fpL, cc_len l' h1 h2]; omega) (by rw [cc_len l' h1 h2]; exact size_cap) (CapB.ones (CapB.new_ w h1 h2 h3))
    fun w' a1 a2 a3 => by rw [hd]; exact h w' ⟨by rw [lset_all _ _ (by rw [cc_len lit hB.keyL hB.fpL, cc_len l' h1 h2])] at a1; exact a1, h1, h2, h3⟩ a2 a3
end
end Go.Proofs.YtgjepahhbecljaaDoor
