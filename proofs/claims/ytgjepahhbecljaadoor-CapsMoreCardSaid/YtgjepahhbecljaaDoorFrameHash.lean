/- A print (32 bytes) that comes in. No condition. -/
import Derived.Test.YtgjepahhbecljaaDoorCapFrame
namespace Go.Proofs.YtgjepahhbecljaaDoor
open Go Go.RowKit Go.ChangeShapes Go.WideShapes Go.ChangeAt

section
variable {H : Type} {enc : TypeId × Value → H} {W : World} {d : DataW H} {p : List MemPlace} {base : Nat}
set_option maxRecDepth 100000 in
theorem read_hash_hash {v : Value} {r : Reach} {b0 : Nat} (hv : Value.okWide Tryd.prog W r b0 25 v) (h : DataW.Trod enc Tryd.prog W base (fun _ => true) true 25 v d p) :
    ∃ z : List Int, v = .agg (u8s z).toArray ∧ z.length = 32 ∧ Bytes z := by
  simp only [Value.okWide, Tryd.underlying25] at hv
  obtain ⟨cs, rfl, h2, _⟩ := hv
  obtain ⟨fuel, hf⟩ := h
  obtain ⟨z, e, l, b⟩ := read_arr_cells Tryd.underlying25 (by kernel_rfl) hf
  have e' : cs.toList = u8s z := e
  exact ⟨z, by rw [← e'], l, b⟩
end
end Go.Proofs.YtgjepahhbecljaaDoor
