/- Which capabilities may be. No condition. -/
import Derived.Test.YtgjepahhbecljaaDoorCap
namespace Go.Proofs.YtgjepahhbecljaaDoor
open Go Go.RowKit
set_option linter.unusedVariables false

theorem Bs.one {w : World} {B : Nat} {v : Value} {xs : List Int} (h : Bs w B v xs) : v.oneCell' = true := by
  obtain ⟨A, c, rfl, _⟩ := h
  rfl
theorem Bs.len {w : World} {B : Nat} {v : Value} {xs : List Int} (h : Bs w B v xs) : ∃ A c, v = .slice A xs.length c := by
  obtain ⟨A, c, rfl, _⟩ := h
  exact ⟨A, c, rfl⟩

/-- A capability is handed over: its cells, and its bytes' length. -/
structure CapV (c : CapD) (lit : Value) : Prop where
  keyL : c.key.length = 16
  fpL : c.fp.length = 32
  litL : ∃ A k, lit = .slice A c.lit.length k

end Go.Proofs.YtgjepahhbecljaaDoor
