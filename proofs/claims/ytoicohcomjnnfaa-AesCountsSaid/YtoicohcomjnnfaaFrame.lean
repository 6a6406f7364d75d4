/- What an argument that can be read as data gives to a walk. No condition. -/
import Derived.Test.YtoicohcomjnnfaaRows
import Derived.Test.YtoicohcomjnnfaaBase
import Derived.ProofKit
import Derived.OpenShut
import Derived.ShutString
import Derived.ChangeOld
import Derived.Deep.Matrix
namespace Go.Proofs.Ytoicohcomjnnfaa
open Go Go.RowKit Go.ChangeShapes Go.WideShapes Go.ChangeAt

theorem own : ownKnob Try.prog.godebug = none := by kernel_rfl
theorem laidOut : laidOutB Try.prog = true := by kernel_rfl

/-- A number that an int64 can be. -/
def In64 (x : Int) : Prop := -9223372036854775808 ≤ x ∧ x ≤ 9223372036854775807
theorem in64_wf {x : Int} (h : (Lit.int .i64 x).wf = true) : In64 x := by
  have := bounds_i64 h
  exact ⟨by omega, by omega⟩

theorem add_off (b o i : Nat) : (⟨b, o, none⟩ : Addr).add i = ⟨b, o + i, none⟩ := by
  unfold Addr.add; split
  · rename_i h; subst h; rfl
  · rfl

/-- A slice that lies in memory, element by element. -/
theorem rd_mk {W : World} {a : Option Addr} {len cap : Nat} {f : Nat → Value} (hl : len ≤ cap) (hm : cap ≤ maxLen) (h : 0 < len → ∃ x, a = some x ∧ ∀ i, i < len → W.cell? (x.add i) = some (f i)) :
    Rd W W.heap.size 1 (.slice a len cap) len ((List.range len).map f) := by
  refine ⟨a, cap, rfl, hl, hm, by simp, fun hp => ?_⟩
  obtain ⟨x, rfl, hc⟩ := h hp
  obtain ⟨b, o, spot⟩ := x
  have h0 := hc 0 hp
  have hspot : spot = none := by simpa [Addr.add] using World.cell?_spot h0
  subst hspot
  refine ⟨b, o, rfl, ?_, fun j u hu => ?_⟩
  · rcases Nat.lt_or_ge b W.heap.size with h | h
    · exact h
    · rw [add_off] at h0
      unfold World.cell? at h0
      simp only at h0
      rw [Array.getElem?_eq_none h] at h0
      cases h0
  · rw [← add_off]
    obtain ⟨hj, rfl⟩ := List.getElem?_eq_some_iff.1 hu
    simp only [List.length_map, List.length_range] at hj
    rw [hc j hj]
    simp

theorem list_range {α : Type} (xs : List α) (d : α) (n : Nat) (h : n ≤ xs.length) : (List.range n).map (fun i => xs.getD i d) = xs.take n := by
  refine List.ext_getElem (by simp; omega) fun i h1 h2 => ?_
  simp only [List.getElem_map, List.getElem_range, List.getElem_take]
  rw [List.getD_eq_getElem?_getD, List.getElem?_eq_getElem (by simp at h1; omega)]
  rfl

theorem ints_mk {W : World} {a : Option Addr} {len cap : Nat} {zs : List Int} (hz : zs.length = cap) (hl : len ≤ cap) (hm : cap ≤ maxLen) (h : 0 < len → ∃ x, a = some x ∧ ∀ i, i < len → W.cell? (x.add i) = some (.int .i64 (zs.getD i 0))) :
    Ints W W.heap.size (.slice a len cap) (zs.take len) := by
  have hl' : (zs.take len).length = len := by rw [List.length_take]; omega
  have := rd_mk (W := W) hl hm h
  unfold Ints
  rw [hl']
  have e : (List.range len).map (fun i => Value.int .i64 (zs.getD i 0)) = (zs.take len).map (.int .i64) := by
    rw [← list_range zs 0 len (by omega), List.map_map]; rfl
  rw [← e]
  exact this

section
variable {H : Type} {enc : TypeId × Value → H} {W : World} {d : DataW H} {p : List MemPlace} {base : Nat}
theorem read_ints {a : Option Addr} {len cap : Nat} (h : DataW.Trod enc Try.prog W base (fun _ => true) true 23 (.slice a len cap) d p) :
    ∃ xs : List Int, Ints W W.heap.size (.slice a len cap) xs ∧ ∀ x ∈ xs, In64 x := by
  obtain ⟨fuel, hf⟩ := h
  rcases open_ints Try.underlying23 Try.underlying3 (by kernel_rfl) hf with ⟨hcs, _⟩ | ⟨x, l, c, zs, hcs, _, hl, hm, hz, _, hcell, hwz⟩
  · simp [Value.cells] at hcs
    obtain ⟨rfl, rfl, rfl⟩ := hcs
    exact ⟨[], Ints.nil_ _ _, fun x hx => by simp at hx⟩
  · simp [Value.cells] at hcs
    obtain ⟨rfl, rfl, rfl⟩ := hcs
    refine ⟨zs.take len, ints_mk (by simpa using hz) hl hm (fun _ => ⟨x, rfl, fun i hi => hcell i (by simp at hz; omega)⟩), fun x hx => in64_wf (hwz x (List.mem_of_mem_take hx))⟩

theorem read_rows {a : Option Addr} {len cap : Nat} (h : DataW.Trod enc Try.prog W base (fun _ => true) true 22 (.slice a len cap) d p) :
    ∃ l : List (List Int), Rows2 W W.heap.size (.slice a len cap) l := by
  obtain ⟨fuel, hf⟩ := h
  rcases Deep.open_int_rows Try.underlying22 Try.underlying23 Try.underlying3 (by kernel_rfl) (by kernel_rfl) hf with ⟨hcs, _⟩ | ⟨x, l, c, A, L, C, Z, hcs, _, hl, hm, _, hr⟩
  · simp [Value.cells] at hcs
    obtain ⟨rfl, rfl, rfl⟩ := hcs
    exact ⟨[], [], Rd.nil_ _ _ _, rfl, fun i hi => by simp at hi⟩
  · simp [Value.cells] at hcs
    obtain ⟨rfl, rfl, rfl⟩ := hcs
    refine ⟨(List.range len).map fun r => (Z r).take (L r), (List.range len).map fun r => .slice (A r) (L r) (C r), ?_, by simp, fun i hi => ?_⟩
    · have := rd_mk (W := W) (a := some x) (f := fun r => .slice (A r) (L r) (C r)) hl hm (fun _ => ⟨x, rfl, fun i hi => (hr i (by omega)).1⟩)
      simpa using this
    · simp at hi
      obtain ⟨h1, h2, h3, h4, h5, h6, h7⟩ := hr i (by omega)
      refine ⟨.slice (A i) (L i) (C i), by simp [hi], ?_⟩
      simp only [List.getElem_map, List.getElem_range]
      refine ints_mk h4 h2 h3 fun hp => ?_
      cases hA : A i with
      | none => have := h6 hA; omega
      | some x => exact ⟨x, rfl, fun j hj => (h7 x hA).2 j (by omega)⟩
end
end Go.Proofs.Ytoicohcomjnnfaa
