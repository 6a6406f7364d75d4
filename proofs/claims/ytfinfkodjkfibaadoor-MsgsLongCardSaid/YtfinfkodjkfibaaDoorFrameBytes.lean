/- A slice of bytes that comes in. No condition. -/
import Derived.Test.YtfinfkodjkfibaaDoorFrame
import Derived.Test.YtfinfkodjkfibaaDoorCells
namespace Go.Proofs.YtfinfkodjkfibaaDoor
open Go Go.RowKit Go.ChangeShapes Go.WideShapes Go.ChangeAt

theorem u8_wf {x : Int} (h : (Lit.int .u8 x).wf = true) : 0 ≤ x ∧ x < 256 := by
  simp [Lit.wf, IntKind.min, IntKind.max, IntKind.signed, IntKind.bits] at h
  omega
theorem bytes_mk {W : World} {a : Option Addr} {len cap : Nat} {zs : List Int} (hz : zs.length = cap) (hl : len ≤ cap) (hm : cap ≤ maxLen) (h : 0 < len → ∃ x, a = some x ∧ ∀ i, i < len → W.cell? (x.add i) = some (.int .u8 (zs.getD i 0))) :
    Bs W W.heap.size (.slice a len cap) (zs.take len) := by
  have hl' : (zs.take len).length = len := by rw [List.length_take]; omega
  have := rd_mk (W := W) hl hm h
  unfold Bs
  rw [hl']
  have e : (List.range len).map (fun i => Value.int .u8 (zs.getD i 0)) = u8s (zs.take len) := by
    rw [← list_range zs 0 len (by omega), u8s, List.map_map]; rfl
  rw [← e]
  exact this
section
variable {H : Type} {enc : TypeId × Value → H} {W : World} {d : DataW H} {p : List MemPlace} {base : Nat}
theorem read_bytes {a : Option Addr} {len cap : Nat} (h : DataW.Trod enc Tryd.prog W base (fun _ => true) true 26 (.slice a len cap) d p) :
    ∃ xs : List Int, Bs W W.heap.size (.slice a len cap) xs ∧ Bytes xs := by
  obtain ⟨fuel, hf⟩ := h
  rcases open_ints Tryd.underlying26 Tryd.underlying5 (by kernel_rfl) hf with ⟨hcs, _⟩ | ⟨x, l, c, zs, hcs, _, hl, hm, hz, _, hcell, hwz⟩
  · simp [Value.cells] at hcs
    obtain ⟨rfl, rfl, rfl⟩ := hcs
    exact ⟨[], Bs.nil_ _ _, fun x hx => by simp at hx⟩
  · simp [Value.cells] at hcs
    obtain ⟨rfl, rfl, rfl⟩ := hcs
    refine ⟨zs.take len, bytes_mk (by simpa using hz) hl hm (fun _ => ⟨x, rfl, fun i hi => hcell i (by simp at hz; omega)⟩), fun x hx => u8_wf (hwz x (List.mem_of_mem_take hx))⟩
end
end Go.Proofs.YtfinfkodjkfibaaDoor
