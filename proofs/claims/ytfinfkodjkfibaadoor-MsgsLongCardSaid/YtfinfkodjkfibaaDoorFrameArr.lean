/- An array of 16 bytes that comes in. No condition. -/
import Derived.Test.YtfinfkodjkfibaaDoorFrame
import Derived.Test.YtfinfkodjkfibaaDoorCells
namespace Go.Proofs.YtfinfkodjkfibaaDoor
open Go Go.RowKit Go.ChangeShapes Go.WideShapes Go.ChangeAt

section
variable {H : Type} {enc : TypeId × Value → H} {W : World} {d : DataW H} {p : List MemPlace} {base : Nat}
set_option maxRecDepth 100000 in
theorem read_arr16 {t : TypeId} (ht : Tryd.prog.underlying t = some (.array 16 5)) (hc : Tryd.prog.cellsOf t = 16) {v : Value} {r : Reach} {b0 : Nat} (hv : Value.okWide Tryd.prog W r b0 t v)
    (h : DataW.Trod enc Tryd.prog W base (fun _ => true) true t v d p) : ∃ z : List Int, v = .agg (u8s z).toArray ∧ z.length = 16 ∧ Bytes z := by
  simp only [Value.okWide, ht] at hv
  obtain ⟨cs, rfl, h2, _⟩ := hv
  obtain ⟨fuel, hf⟩ := h
  obtain ⟨xs, m, rfl, hx, hl, hn, hi⟩ := DataW.trod_array ht hf
  have hcells : (Value.agg cs).cells = cs := rfl
  rw [hcells] at hf hl hi
  have hl' : cs.toList.length = 16 := by rw [hl, hc]
  have hcu : Tryd.prog.cellsOf 5 = 1 := by kernel_rfl
  have key : ∀ i (hi : i < 16), ∃ a : Int, cs.toList[i]? = some (.int .u8 a) ∧ (Lit.int .u8 a).wf = true := by
    intro i hi16
    have h1 := hi i hi16
    rw [hcu, List.getElem?_eq_getElem (by omega)] at h1
    obtain ⟨a, ea, _, wa⟩ := DataW.trod_int Tryd.underlying5 h1
    refine ⟨a, ?_, wa⟩
    have := congrArg (fun l => l[0]?) ea
    simpa [List.getElem?_take, List.getElem?_drop] using this
  refine ⟨cs.toList.map (fun v => match v with | .int _ n => n | _ => 0), ?_, by simpa using hl', fun x hx => ?_⟩
  · congr 1
    apply Array.ext'
    simp only [u8s, List.map_map]
    refine List.ext_getElem? fun i => ?_
    rw [List.getElem?_map]
    by_cases hi : i < 16
    · obtain ⟨a, ha, _⟩ := key i hi
      rw [ha]; rfl
    · rw [List.getElem?_eq_none (by omega)]; rfl
  · obtain ⟨y, hy, rfl⟩ := List.mem_map.1 hx
    obtain ⟨i, hi, rfl⟩ := List.getElem_of_mem hy
    obtain ⟨a, ha, wa⟩ := key i (by omega)
    rw [List.getElem?_eq_getElem hi] at ha
    injection ha with ha
    rw [ha]
    simp [Lit.wf, IntKind.min, IntKind.max, IntKind.signed, IntKind.bits] at wa
    exact ⟨by show 0 ≤ a; omega, by show a < 256; omega⟩
set_option maxRecDepth 100000 in
theorem read_arr16_key {v : Value} {r : Reach} {b0 : Nat} (hv : Value.okWide Tryd.prog W r b0 28 v) (h : DataW.Trod enc Tryd.prog W base (fun _ => true) true 28 v d p) :
    ∃ z : List Int, v = .agg (u8s z).toArray ∧ z.length = 16 ∧ Bytes z := read_arr16 Tryd.underlying28 (by kernel_rfl) hv h
set_option maxRecDepth 100000 in
theorem read_arr16_arr16 {v : Value} {r : Reach} {b0 : Nat} (hv : Value.okWide Tryd.prog W r b0 27 v) (h : DataW.Trod enc Tryd.prog W base (fun _ => true) true 27 v d p) :
    ∃ z : List Int, v = .agg (u8s z).toArray ∧ z.length = 16 ∧ Bytes z := read_arr16 Tryd.underlying27 (by kernel_rfl) hv h
end
end Go.Proofs.YtfinfkodjkfibaaDoor
