/- Entries that come in, cut. No condition. -/
import Derived.Test.YthdjgebbjogmiaaDoorJoin21
import Derived.Test.YthdjgebbjogmiaaDoorJoin23
set_option linter.unusedVariables false
set_option linter.unusedSimpArgs false
namespace Go.Proofs.YthdjgebbjogmiaaDoor
open Go Go.RowKit
theorem cutE_in {e : EntD} (h : e.In) : (cutE e).In :=
  ⟨fun x hx => h.nameB x (List.mem_of_mem_take hx), ⟨h.r.toWf.cut 70, h.r.kindI, h.r.KI, h.r.NI, h.r.SI⟩, ⟨h.w_.toWf.cut 70, h.w_.kindI, h.w_.KI, h.w_.NI, h.w_.SI⟩, by show (e.name.take 70).length ≤ _; have := List.length_take_le 70 e.name; have := h.nameL; unfold maxLen; omega⟩
theorem cutEnts_in {l : List EntD} (h : ∀ e ∈ l, e.In) : ∀ e ∈ cutEnts l, e.In := fun e he => by
  obtain ⟨x, hx, rfl⟩ := List.mem_map.1 he
  exact cutE_in (h x (List.mem_of_mem_take hx))
end Go.Proofs.YthdjgebbjogmiaaDoor
