/- Lists of rows of bytes that come in; the first K of them, each cut. No condition. -/
import Derived.Test.YtijhcdmjiclnnaaDoorFrameBytes
import Derived.Test.YtijhcdmjiclnnaaDoorRowsB
import Derived.Deep.Matrix
namespace Go.Proofs.YtijhcdmjiclnnaaDoor
open Go Go.RowKit Go.ChangeShapes Go.WideShapes Go.ChangeAt

theorem bytes_mk0 {W : World} {a : Option Addr} {len cap : Nat} {zs : List Int} (hz : zs.length = cap) (hl : len ≤ cap) (hm : cap ≤ maxLen) (h : 0 < len → ∃ x, a = some x ∧ ∀ i, i < len → W.cell? (x.add i) = some (.int .u8 (zs.getD i 0))) :
    Bs W W.heap.size (.slice a len cap) (zs.take len) := bytes_mk hz hl hm h
section
variable {H : Type} {enc : TypeId × Value → H} {W : World} {d : DataW H} {p : List MemPlace} {base : Nat}
theorem read_brows {a : Option Addr} {len cap : Nat} (h : DataW.Trod enc Tryd.prog W base (fun _ => true) true 22 (.slice a len cap) d p) :
    ∃ l : List (List Int), RowsB W W.heap.size (.slice a len cap) l ∧ ∀ x ∈ l, Bytes x := by
  obtain ⟨fuel, hf⟩ := h
  rcases Deep.open_int_rows Tryd.underlying22 Tryd.underlying23 Tryd.underlying5 (by kernel_rfl) (by kernel_rfl) hf with ⟨hcs, _⟩ | ⟨x, l, c, A, L, C, Z, hcs, _, hl, hm, _, hr⟩
  · simp [Value.cells] at hcs
    obtain ⟨rfl, rfl, rfl⟩ := hcs
    exact ⟨[], RowsB.nil_ _ _, fun x hx => by cases hx⟩
  · simp [Value.cells] at hcs
    obtain ⟨rfl, rfl, rfl⟩ := hcs
    refine ⟨(List.range len).map fun r => (Z r).take (L r), ⟨(List.range len).map fun r => .slice (A r) (L r) (C r), ?_, by simp, fun i hi => ?_⟩, fun y hy => ?_⟩
    · have := rd_mk (W := W) (a := some x) (f := fun r => .slice (A r) (L r) (C r)) hl hm (fun _ => ⟨x, rfl, fun i hi => (hr i (by omega)).1⟩)
      simpa using this
    · simp at hi
      obtain ⟨h1, h2, h3, h4, h5, h6, h7⟩ := hr i (by omega)
      refine ⟨.slice (A i) (L i) (C i), by simp [hi], ?_⟩
      simp only [List.getElem_map, List.getElem_range]
      refine bytes_mk h4 h2 h3 fun hp => ?_
      cases hA : A i with
      | none => have := h6 hA; omega
      | some x => exact ⟨x, rfl, fun j hj => (h7 x hA).2 j (by omega)⟩
    · obtain ⟨r, hr', rfl⟩ := List.mem_map.1 hy
      have hr' := List.mem_range.1 hr'
      obtain ⟨h1, h2, h3, h4, h5, h6, h7⟩ := hr r (by omega)
      exact fun z hz => u8_wf (h5 z (List.mem_of_mem_take hz))
end

/-- The first K rows, each cut at m. -/
def cutR (K m : Nat) (l : List (List Int)) : List (List Int) := (l.take K).map (·.take m)
theorem cutR_len (K m : Nat) (l : List (List Int)) : (cutR K m l).length = min K l.length := by simp [cutR]
theorem cutR_row (K m : Nat) (l : List (List Int)) : ∀ x ∈ cutR K m l, x.length ≤ m := fun x hx => by
  obtain ⟨y, _, rfl⟩ := List.mem_map.1 hx
  rw [List.length_take]; exact Nat.min_le_left _ _
theorem cutR_bytes (K m : Nat) {l : List (List Int)} (h : ∀ x ∈ l, Bytes x) : ∀ x ∈ cutR K m l, Bytes x := fun x hx => by
  obtain ⟨y, hy, rfl⟩ := List.mem_map.1 hx
  exact fun z hz => h y (List.mem_of_mem_take hy) z (List.mem_of_mem_take hz)
theorem cutR_succ (m : Nat) (l : List (List Int)) (i : Nat) (h : i < l.length) : cutR (i + 1) m l = cutR i m l ++ [l[i].take m] := by
  unfold cutR
  rw [List.take_succ_eq_append_getElem h, List.map_append]
  rfl
end Go.Proofs.YtijhcdmjiclnnaaDoor
