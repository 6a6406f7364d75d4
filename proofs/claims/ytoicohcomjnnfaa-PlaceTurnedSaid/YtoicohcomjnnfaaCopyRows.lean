/- aumbrykeep.Copy of rows: a list of the same rows in new memory. Condition: few rows. -/
import Derived.Test.YtoicohcomjnnfaaSmall
namespace Go.Proofs.Ytoicohcomjnnfaa
open Go Go.RowKit

/-- The cells of a list of rows, each still reading as its row. -/
def RowCells (w : World) (B : Nat) (vs : List Value) (l : List (List Int)) : Prop := vs.length = l.length ∧ (∀ u ∈ vs, u.oneCell' = true) ∧ ∀ i (hi : i < l.length), ∃ u, vs[i]? = some u ∧ Ints w B u l[i]

theorem Rows2.cells {w : World} {B : Nat} {v : Value} {l : List (List Int)} (h : Rows2 w B v l) : ∃ vs, Rd w B 1 v l.length vs ∧ RowCells w B vs l := by
  obtain ⟨vs, h1, h2, h3⟩ := h
  refine ⟨vs, h1, h2, fun u hu => ?_, h3⟩
  obtain ⟨i, hi, rfl⟩ := List.getElem_of_mem hu
  obtain ⟨u', hu', hx⟩ := h3 i (by omega)
  rw [List.getElem?_eq_getElem hi] at hu'
  injection hu' with e
  rw [e]
  obtain ⟨A, c, rfl, _⟩ := hx.open_
  rfl
theorem RowCells.below {w w' : World} {B B' : Nat} {vs : List Value} {l : List (List Int)} (h : RowCells w B vs l) (hb : Below B' w w') (hB : B ≤ B') : RowCells w' B vs l := by
  refine ⟨h.1, h.2.1, fun i hi => ?_⟩
  obtain ⟨u, hu, hx⟩ := h.2.2 i hi
  exact ⟨u, hu, hx.below hb hB⟩
theorem RowCells.more {w : World} {B B' : Nat} {vs : List Value} {l : List (List Int)} (h : RowCells w B vs l) (hB : B ≤ B') : RowCells w B' vs l := by
  refine ⟨h.1, h.2.1, fun i hi => ?_⟩
  obtain ⟨u, hu, hx⟩ := h.2.2 i hi
  exact ⟨u, hu, hx.more hB⟩
theorem RowCells.snoc {w : World} {B : Nat} {vs : List Value} {l : List (List Int)} (h : RowCells w B vs l) {u : Value} {r : List Int} (hu : Ints w B u r) : RowCells w B (vs ++ [u]) (l ++ [r]) := by
  refine ⟨by simp [h.1], fun x hx => ?_, fun i hi => ?_⟩
  · rcases List.mem_append.1 hx with hx | hx
    · exact h.2.1 x hx
    · obtain rfl := List.mem_singleton.1 hx
      obtain ⟨A, c, rfl, _⟩ := hu.open_
      rfl
  · rcases Nat.lt_or_ge i l.length with hl | hl
    · obtain ⟨x, hx, hy⟩ := h.2.2 i hl
      exact ⟨x, by rw [List.getElem?_append_left (by have := h.1; omega)]; exact hx, by rw [List.getElem_append_left hl]; exact hy⟩
    · have : i = l.length := by simp at hi; omega
      subst this
      exact ⟨u, by rw [← h.1]; simp, by simpa using hu⟩
theorem RowCells.rows {w : World} {B base : Nat} {e : TypeId} {v : Value} {n : Nat} {vs : List Value} {l : List (List Int)} (h : RowCells w B vs l) (ho : w.ownsRow base e 1 v n vs) (hB : B ≤ w.heap.size) : Rows2 w w.heap.size v l := by
  have : n = l.length := by have := ho.1; have := h.1; omega
  subst this
  refine Rows2.of_vals (Rd.of_own ho) fun i hi => ?_
  obtain ⟨u, hu, hx⟩ := h.2.2 i hi
  exact ⟨u, hu, hx.more hB⟩

set_option maxHeartbeats 400000 in
theorem copy_rows (v : Value) (l : List (List Int)) (vs : List Value) (w : World) (B : Nat) (h : Rd w B 1 v l.length vs) (hc : RowCells w B vs l) (hb : l.length * 24 ≤ 140737488355328) :
    Calls Try.prog 26 #[v] w (Gives fun v' w' => w'.ownsRow w.heap.size 23 1 v' l.length vs ∧ Below w.heap.size w w') := by
  go_enter Try.func26, Try.ntmps26
  go_wp2_with (at_builtin; go_must (refine wpList_append_rd _ rfl _ _ _ rfl w.heap.size _ _ _ el_rows _ _ _ rfl (World.ownsRow_nil _ _ _ _) B _ _ _ rfl h hc.2.1 ?_ ?_ ?_))
  · omega
  · exact Nat.le_refl _
  · intro v' w' hown hg _
    go_wp2
    go_ret
    exact ⟨v', rfl, hown, (Below.refl _ _).grown hg (Nat.le_refl _) (by simp [Value.ownBlock])⟩
end Go.Proofs.Ytoicohcomjnnfaa
