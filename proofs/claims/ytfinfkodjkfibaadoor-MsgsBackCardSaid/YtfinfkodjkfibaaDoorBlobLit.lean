/- A blob from a literal, appended onto a list of blobs of the call's own, in regions that draw their order. No condition. -/
import Derived.Test.YtfinfkodjkfibaaDoorBlobs
import Derived.Test.YtfinfkodjkfibaaDoorRowsLit
import Derived.Test.YtfinfkodjkfibaaDoorCells
namespace Go.Proofs.YtfinfkodjkfibaaDoor
open Go Go.RowKit
set_option maxRecDepth 100000
section
variable {o : Oper} {a : Act} {w : World} {K : Act → World → Prop} {Q : Exit → Act → World → Prop}
theorem built_blob (X : Int) (A : Option Addr) (n c : Nat) : Tryd.prog.built 44 [(0, .int .i64 X), (1, .slice A n c)] = some [Value.int .i64 X, .slice A n c].toArray := by kernel_rfl
theorem wp_blob1D (d : Nat) (hd : o.dst = some d) (x : Operand) (ho : o.op = .buildSlice 23 1 #[(0, x)]) (X : Int) (u : Value) (hx : a.eval x = .agg [Value.int .i64 X, u].toArray)
    (h : ∀ (g : Nat) (w' : World), w.heap.size ≤ g → Blk w' g 44 [.int .i64 X, u] → Below w.heap.size w w' → K (a.put (some d) (.slice (some ⟨g, 0, none⟩) 1 1)) w') : o.wp Tryd.prog a w K Q := by
  obtain ⟨i, z, ht, hi, hz, hsize, hby, hzs, _, _⟩ := el_blobs
  refine wp_buildSlice 23 44 1 _ ho #[.int .i64 X, u] i z ht hi hz (by rw [hsize]; omega) (by rw [hsize]; omega) ?_ (by rw [hd]; exact h _ _ (Nat.le_refl _) (Blk.new w 44 [.int .i64 X, u]) ((Below.refl _ _).alloc (Nat.le_refl _) _))
  have e : (#[(0, x)].map fun (p : Nat × Operand) => (p.1, a.eval p.2)).toList = ([Value.agg [Value.int .i64 X, u].toArray].zipIdx 0).map fun x => (x.2, x.1) := by simp [hx]
  rw [e, hsize]
  have := Great.fill_whole (s := 2) (by decide) [Value.agg [Value.int .i64 X, u].toArray] ((Array.range (1 * 2)).map (z.cells[· % z.cells.size]!)) (by intro u hu; rw [List.mem_singleton.1 hu]; rfl) (by simp)
  rw [this]
  rfl
theorem wp_append_blobD (d : Nat) (hd : o.dst = some d) (s x : Operand) (ho : o.op = .call { callee := .builtin .append, args := #[s, x], argTypes := #[23, 23] })
    (base : Nat) (v : Value) (l : List Msg.Blb) (hs : a.eval s = v) (hown : OwnBlbs w base v l) (hB : base ≤ w.heap.size) (hl : l.length ≤ 1000000) (g : Nat) (X : Int) (u : Value) (r : List Int) (hx : a.eval x = .slice (some ⟨g, 0, none⟩) 1 1)
    (hg : Blk w g 44 [.int .i64 X, u]) (hu : ElB w base u r)
    (h : ∀ v' w', OwnBlbs w' base v' (l ++ [(X, r)]) → w.grownBy w' v.ownBlock → (∀ k, v.ownBlock = some k → base ≤ k) → K (a.put (some d) v') w') : o.wp Tryd.prog a w K Q := by
  obtain ⟨us, hul, hrow, hel⟩ := hown
  have hrd := Rd.of_blk (B := w.heap.size) hg hg.lt 2 1 1 rfl (Nat.le_refl _) (by decide)
  have hone : ∀ z ∈ [Value.int .i64 X, u], z.oneCell' = true := fun z hz => by
    simp only [List.mem_cons, List.not_mem_nil, or_false] at hz
    rcases hz with rfl | rfl
    · rfl
    · exact hu.one
  refine wp_append_rdD w d hd s x _ ho base _ 2 32 el_blobs v l.length _ hs hrow w.heap.size _ 1 _ hx hrd hone (by omega) hB ?_
  intro v' w' h1 h2 _
  exact h v' w' (OwnBlbs.push hul hrow hel hB hu h1 h2) h2 (own_base hrow)
end
end Go.Proofs.YtfinfkodjkfibaaDoor
