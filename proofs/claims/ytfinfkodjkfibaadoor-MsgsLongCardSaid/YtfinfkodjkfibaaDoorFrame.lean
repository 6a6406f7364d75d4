/- What an argument that can be read as data gives to a walk. No condition. -/
import Derived.Test.YtfinfkodjkfibaaDoorRows
import Derived.Test.YtfinfkodjkfibaaDoorBase
import Derived.ProofKit
import Derived.OpenShut
import Derived.ShutString
import Derived.ChangeOld
namespace Go.Proofs.YtfinfkodjkfibaaDoor
open Go Go.RowKit Go.ChangeShapes Go.WideShapes Go.ChangeAt

theorem own : ownKnob Tryd.prog.godebug = none := by kernel_rfl
theorem laidOut : laidOutB Tryd.prog = true := by kernel_rfl

/-- A number that an int64 can be. -/
def In64 (x : Int) : Prop := -9223372036854775808 ≤ x ∧ x ≤ 9223372036854775807
theorem in64_wf {x : Int} (h : (Lit.int .i64 x).wf = true) : In64 x := by
  have := bounds_i64 h
  exact ⟨by omega, by omega⟩

theorem add_off (b o i : Nat) : (⟨b, o, none⟩ : Addr).add i = ⟨b, o + i, none⟩ := by
  unfold Addr.add; split
  · rename_i h; subst h; rfl
  · rfl

/-- A slice that lies in memory, element by element. -/
theorem rd_mk {W : World} {a : Option Addr} {len cap : Nat} {f : Nat → Value} (hl : len ≤ cap) (hm : cap ≤ maxLen) (h : 0 < len → ∃ x, a = some x ∧ ∀ i, i < len → W.cell? (x.add i) = some (f i)) :
    Rd W W.heap.size 1 (.slice a len cap) len ((List.range len).map f) := by
  refine ⟨a, cap, rfl, hl, hm, by simp, fun hp => ?_⟩
  obtain ⟨x, rfl, hc⟩ := h hp
  obtain ⟨b, o, spot⟩ := x
  have h0 := hc 0 hp
  have hspot : spot = none := by simpa [Addr.add] using World.cell?_spot h0
  subst hspot
  refine ⟨b, o, rfl, ?_, fun j u hu => ?_⟩
  · rcases Nat.lt_or_ge b W.heap.size with h | h
    · exact h
    · rw [add_off] at h0
      unfold World.cell? at h0
      simp only at h0
      rw [Array.getElem?_eq_none h] at h0
      cases h0
  · rw [← add_off]
    obtain ⟨hj, rfl⟩ := List.getElem?_eq_some_iff.1 hu
    simp only [List.length_map, List.length_range] at hj
    rw [hc j hj]
    simp

theorem list_range {α : Type} (xs : List α) (d : α) (n : Nat) (h : n ≤ xs.length) : (List.range n).map (fun i => xs.getD i d) = xs.take n := by
  refine List.ext_getElem (by simp; omega) fun i h1 h2 => ?_
  simp only [List.getElem_map, List.getElem_range, List.getElem_take]
  rw [List.getD_eq_getElem?_getD, List.getElem?_eq_getElem (by simp at h1; omega)]
  rfl

end Go.Proofs.YtfinfkodjkfibaaDoor
