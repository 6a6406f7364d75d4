/- What an argument that can be read as data gives to a walk. No condition.
A slice of bytes that comes in. No condition.
An array of 16 bytes that comes in. No condition. -/
import Derived.Test.YtfinfkodjkfibaaDoorRows
import Derived.Test.YtfinfkodjkfibaaDoorBase
import Derived.ProofKit
import Derived.OpenShut
import Derived.ShutString
import Derived.ChangeOld
import Derived.Test.YtfinfkodjkfibaaDoorCells
namespace Go.Proofs.YtfinfkodjkfibaaDoor
open Go Go.RowKit Go.ChangeShapes Go.WideShapes Go.ChangeAt

theorem own : ownKnob Tryd.prog.godebug = none := by kernel_rfl
theorem laidOut : laidOutB Tryd.prog = true := by kernel_rfl

/-- A number that an int64 can be. -/
def In64 (x : Int) : Prop := -9223372036854775808 ≤ x ∧ x ≤ 9223372036854775807
theorem in64_wf {x : Int} (h : (Lit.int .i64 x).wf = true) : In64 x := by
  have := bounds_i64 h
  exact ⟨by omega, by omega⟩

theorem add_off (b o i : Nat) : (⟨b, o, none⟩ : Addr).add i = ⟨b, o + i, none⟩ := by
  unfold Addr.add; split
  · rename_i h; subst h; rfl
  · rfl

/-- A slice that lies in memory, element by element. -/
theorem rd_mk {W : World} {a : Option Addr} {len cap : Nat} {f : Nat → Value} (hl : len ≤ cap) (hm : cap ≤ maxLen) (h : 0 < len → ∃ x, a = some x ∧ ∀ i, i < len → W.cell? (x.add i) = some (f i)) :
    Rd W W.heap.size 1 (.slice a len cap) len ((List.range len).map f) := by
  refine ⟨a, cap, rfl, hl, hm, by simp, fun hp => ?_⟩
  obtain ⟨x, rfl, hc⟩ := h hp
  obtain ⟨b, o, spot⟩ := x
  have h0 := hc 0 hp
  have hspot : spot = none := by simpa [Addr.add] using World.cell?_spot h0
  subst hspot
  refine ⟨b, o, rfl, ?_, fun j u hu => ?_⟩
  · rcases Nat.lt_or_ge b W.heap.size with h | h
    · exact h
    · rw [add_off] at h0
      unfold World.cell? at h0
      simp only at h0
      rw [Array.getElem?_eq_none h] at h0
      cases h0
  · rw [← add_off]
    obtain ⟨hj, rfl⟩ := List.getElem?_eq_some_iff.1 hu
    simp only [List.length_map, List.length_range] at hj
    rw [hc j hj]
    simp

theorem list_range {α : Type} (xs : List α) (d : α) (n : Nat) (h : n ≤ xs.length) : (List.range n).map (fun i => xs.getD i d) = xs.take n := by
  refine List.ext_getElem (by simp; omega) fun i h1 h2 => ?_
  simp only [List.getElem_map, List.getElem_range, List.getElem_take]
  rw [List.getD_eq_getElem?_getD, List.getElem?_eq_getElem (by simp at h1; omega)]
  rfl

end Go.Proofs.YtfinfkodjkfibaaDoor

namespace Go.Proofs.YtfinfkodjkfibaaDoor
open Go Go.RowKit Go.ChangeShapes Go.WideShapes Go.ChangeAt

theorem u8_wf {x : Int} (h : (Lit.int .u8 x).wf = true) : 0 ≤ x ∧ x < 256 := by
  simp [Lit.wf, IntKind.min, IntKind.max, IntKind.signed, IntKind.bits] at h
  omega
theorem bytes_mk {W : World} {a : Option Addr} {len cap : Nat} {zs : List Int} (hz : zs.length = cap) (hl : len ≤ cap) (hm : cap ≤ maxLen) (h : 0 < len → ∃ x, a = some x ∧ ∀ i, i < len → W.cell? (x.add i) = some (.int .u8 (zs.getD i 0))) :
    Bs W W.heap.size (.slice a len cap) (zs.take len) := by
  have hl' : (zs.take len).length = len := by rw [List.length_take]; omega
  have := rd_mk (W := W) hl hm h
  unfold Bs
  rw [hl']
  have e : (List.range len).map (fun i => Value.int .u8 (zs.getD i 0)) = u8s (zs.take len) := by
    rw [← list_range zs 0 len (by omega), u8s, List.map_map]; rfl
  rw [← e]
  exact this
section
variable {H : Type} {enc : TypeId × Value → H} {W : World} {d : DataW H} {p : List MemPlace} {base : Nat}
theorem read_bytes {a : Option Addr} {len cap : Nat} (h : DataW.Trod enc Tryd.prog W base (fun _ => true) true 26 (.slice a len cap) d p) :
    ∃ xs : List Int, Bs W W.heap.size (.slice a len cap) xs ∧ Bytes xs := by
  obtain ⟨fuel, hf⟩ := h
  rcases open_ints Tryd.underlying26 Tryd.underlying5 (by kernel_rfl) hf with ⟨hcs, _⟩ | ⟨x, l, c, zs, hcs, _, hl, hm, hz, _, hcell, hwz⟩
  · simp [Value.cells] at hcs
    obtain ⟨rfl, rfl, rfl⟩ := hcs
    exact ⟨[], Bs.nil_ _ _, fun x hx => by simp at hx⟩
  · simp [Value.cells] at hcs
    obtain ⟨rfl, rfl, rfl⟩ := hcs
    refine ⟨zs.take len, bytes_mk (by simpa using hz) hl hm (fun _ => ⟨x, rfl, fun i hi => hcell i (by simp at hz; omega)⟩), fun x hx => u8_wf (hwz x (List.mem_of_mem_take hx))⟩
end
end Go.Proofs.YtfinfkodjkfibaaDoor

namespace Go.Proofs.YtfinfkodjkfibaaDoor
open Go Go.RowKit Go.ChangeShapes Go.WideShapes Go.ChangeAt

section
variable {H : Type} {enc : TypeId × Value → H} {W : World} {d : DataW H} {p : List MemPlace} {base : Nat}
set_option maxRecDepth 100000 in
theorem read_arr16 {t : TypeId} (ht : Tryd.prog.underlying t = some (.array 16 5)) (hc : Tryd.prog.cellsOf t = 16) {v : Value} {r : Reach} {b0 : Nat} (hv : Value.okWide Tryd.prog W r b0 t v)
    (h : DataW.Trod enc Tryd.prog W base (fun _ => true) true t v d p) : ∃ z : List Int, v = .agg (u8s z).toArray ∧ z.length = 16 ∧ Bytes z := by
  simp only [Value.okWide, ht] at hv
  obtain ⟨cs, rfl, h2, _⟩ := hv
  obtain ⟨fuel, hf⟩ := h
  obtain ⟨xs, m, rfl, hx, hl, hn, hi⟩ := DataW.trod_array ht hf
  have hcells : (Value.agg cs).cells = cs := rfl
  rw [hcells] at hf hl hi
  have hl' : cs.toList.length = 16 := by rw [hl, hc]
  have hcu : Tryd.prog.cellsOf 5 = 1 := by kernel_rfl
  have key : ∀ i (hi : i < 16), ∃ a : Int, cs.toList[i]? = some (.int .u8 a) ∧ (Lit.int .u8 a).wf = true := by
    intro i hi16
    have h1 := hi i hi16
    rw [hcu, List.getElem?_eq_getElem (by omega)] at h1
    obtain ⟨a, ea, _, wa⟩ := DataW.trod_int Tryd.underlying5 h1
    refine ⟨a, ?_, wa⟩
    have := congrArg (fun l => l[0]?) ea
    simpa [List.getElem?_take, List.getElem?_drop] using this
  refine ⟨cs.toList.map (fun v => match v with | .int _ n => n | _ => 0), ?_, by simpa using hl', fun x hx => ?_⟩
  · congr 1
    apply Array.ext'
    simp only [u8s, List.map_map]
    refine List.ext_getElem? fun i => ?_
    rw [List.getElem?_map]
    by_cases hi : i < 16
    · obtain ⟨a, ha, _⟩ := key i hi
      rw [ha]; rfl
    · rw [List.getElem?_eq_none (by omega)]; rfl
  · obtain ⟨y, hy, rfl⟩ := List.mem_map.1 hx
    obtain ⟨i, hi, rfl⟩ := List.getElem_of_mem hy
    obtain ⟨a, ha, wa⟩ := key i (by omega)
    rw [List.getElem?_eq_getElem hi] at ha
    injection ha with ha
    rw [ha]
    simp [Lit.wf, IntKind.min, IntKind.max, IntKind.signed, IntKind.bits] at wa
    exact ⟨by show 0 ≤ a; omega, by show a < 256; omega⟩
set_option maxRecDepth 100000 in
theorem read_arr16_key {v : Value} {r : Reach} {b0 : Nat} (hv : Value.okWide Tryd.prog W r b0 28 v) (h : DataW.Trod enc Tryd.prog W base (fun _ => true) true 28 v d p) :
    ∃ z : List Int, v = .agg (u8s z).toArray ∧ z.length = 16 ∧ Bytes z := read_arr16 Tryd.underlying28 (by kernel_rfl) hv h
set_option maxRecDepth 100000 in
theorem read_arr16_arr16 {v : Value} {r : Reach} {b0 : Nat} (hv : Value.okWide Tryd.prog W r b0 27 v) (h : DataW.Trod enc Tryd.prog W base (fun _ => true) true 27 v d p) :
    ∃ z : List Int, v = .agg (u8s z).toArray ∧ z.length = 16 ∧ Bytes z := read_arr16 Tryd.underlying27 (by kernel_rfl) hv h
end
end Go.Proofs.YtfinfkodjkfibaaDoor
