/- Rows of the call's own from a literal of rows. No condition. -/
import Derived.Test.YtfinfkodjkfibaaDoorRowsB
import Derived.Test.YtfinfkodjkfibaaDoorStr
import Derived.Great.Ranges
import Derived.Great.BuildSlice
import Derived.Great.FillDense
namespace Go.Proofs.YtfinfkodjkfibaaDoor
open Go Go.RowKit
set_option maxRecDepth 100000

section
variable {o : Oper} {a : Act} {w : World} {K : Act → World → Prop} {Q : Exit → Act → World → Prop} {ops : Array Oper} {rest : List Oper}
theorem wp_rows_lit (len : Nat) (parts : Array (Nat × Operand)) (ho : o.op = .buildSlice 72 len parts) (us : List Value) (hl : us.length = len) (h0 : 0 < len) (hs : len ≤ 16)
    (hp : (parts.map fun (i, x) => (i, a.eval x)).toList = (us.zipIdx 0).map fun x => (x.2, x.1)) (h1 : ∀ v ∈ us, v.cells = #[v])
    (h : ∀ w', Blk w' w.heap.size 26 us → Below w.heap.size w w' → K (a.put o.dst (.slice (some ⟨w.heap.size, 0, none⟩) len len)) w') : o.wp Tryd.prog a w K Q := by
  obtain ⟨i, z, ht, hi, hz, hsize, hby, hzs, _, _⟩ := el_brows
  refine wp_buildSlice 72 26 len parts ho us.toArray i z ht hi hz (by rw [hsize]; omega) (by rw [hsize]; omega) ?_ (h _ (Blk.new w 26 us) ((Below.refl _ _).alloc (Nat.le_refl _) _))
  rw [hp, hsize]
  exact Great.fill_flat us _ h1 (by simp [hl])
theorem wpList_rows_lit (hgd : o.guard = none) (len : Nat) (parts : Array (Nat × Operand)) (ho : o.op = .buildSlice 72 len parts) (us : List Value) (hl : us.length = len) (h0 : 0 < len) (hs : len ≤ 16)
    (hp : (parts.map fun (i, x) => (i, a.eval x)).toList = (us.zipIdx 0).map fun x => (x.2, x.1)) (h1 : ∀ v ∈ us, v.cells = #[v])
    (h : ∀ w', Blk w' w.heap.size 26 us → Below w.heap.size w w' → wpList Tryd.prog ops Q rest (a.put o.dst (.slice (some ⟨w.heap.size, 0, none⟩) len len)) w') : wpList Tryd.prog ops Q (o :: rest) a w :=
  wpList_plain hgd fun _ hK => wp_rows_lit len parts ho us hl h0 hs hp h1 fun w' a1 a2 => hK _ _ (h w' a1 a2)
theorem wpList_rows1 (hgd : o.guard = none) (x : Operand) (ho : o.op = .buildSlice 72 1 #[(0, x)]) (u : Value) (hx : a.eval x = u) (h1 : u.cells = #[u])
    (h : ∀ w', Blk w' w.heap.size 26 [u] → Below w.heap.size w w' → wpList Tryd.prog ops Q rest (a.put o.dst (.slice (some ⟨w.heap.size, 0, none⟩) 1 1)) w') : wpList Tryd.prog ops Q (o :: rest) a w :=
  wpList_rows_lit hgd 1 _ ho [u] rfl (by omega) (by omega) (by simp [hx]) (by intro v hv; simp at hv; subst hv; exact h1) h
theorem wp_rows1D (d : Nat) (hd : o.dst = some d) (x : Operand) (ho : o.op = .buildSlice 72 1 #[(0, x)]) (u : Value) (hx : a.eval x = u) (h1 : u.cells = #[u])
    (h : ∀ w', Blk w' w.heap.size 26 [u] → Below w.heap.size w w' → K (a.put (some d) (.slice (some ⟨w.heap.size, 0, none⟩) 1 1)) w') : o.wp Tryd.prog a w K Q :=
  wp_rows_lit 1 _ ho [u] rfl (by omega) (by omega) (by simp [hx]) (by intro v hv; simp at hv; subst hv; exact h1) (by rw [hd]; exact h)
theorem wp_rows2D (d : Nat) (hd : o.dst = some d) (x y : Operand) (ho : o.op = .buildSlice 72 2 #[(0, x), (1, y)]) (u v : Value) (hx : a.eval x = u) (hy : a.eval y = v) (h1 : u.cells = #[u]) (h2 : v.cells = #[v])
    (h : ∀ w', Blk w' w.heap.size 26 [u, v] → Below w.heap.size w w' → K (a.put (some d) (.slice (some ⟨w.heap.size, 0, none⟩) 2 2)) w') : o.wp Tryd.prog a w K Q :=
  wp_rows_lit 2 _ ho [u, v] rfl (by omega) (by omega) (by simp [hx, hy]) (by intro q hq; simp at hq; rcases hq with rfl | rfl <;> assumption) (by rw [hd]; exact h)
theorem wp_rows3D (d : Nat) (hd : o.dst = some d) (x y z : Operand) (ho : o.op = .buildSlice 72 3 #[(0, x), (1, y), (2, z)]) (u v q : Value) (hx : a.eval x = u) (hy : a.eval y = v) (hz : a.eval z = q) (h1 : u.cells = #[u]) (h2 : v.cells = #[v]) (h3 : q.cells = #[q])
    (h : ∀ w', Blk w' w.heap.size 26 [u, v, q] → Below w.heap.size w w' → K (a.put (some d) (.slice (some ⟨w.heap.size, 0, none⟩) 3 3)) w') : o.wp Tryd.prog a w K Q :=
  wp_rows_lit 3 _ ho [u, v, q] rfl (by omega) (by omega) (by simp [hx, hy, hz]) (by intro r hr; simp at hr; rcases hr with rfl | rfl | rfl <;> assumption) (by rw [hd]; exact h)
theorem wpList_box_key (x : Operand) (ho : o.op = .box 28 x) (xs : List Int) (hx : a.eval x = .agg (u8s xs).toArray) (hgd : o.guard = none)
    (h : ∀ w', Blk w' w.heap.size 28 (u8s xs) → Below w.heap.size w w' → w'.heap.size = w.heap.size + 1 → wpList Tryd.prog ops Q rest (a.put o.dst (.pointer (some ⟨w.heap.size, 0, none⟩))) w') : wpList Tryd.prog ops Q (o :: rest) a w :=
  Great.wpList_boxTo hgd _ x ho _ rfl _ rfl (u8s xs).toArray (by rw [hx]; rfl) (h _ (Blk.new w _ _) ((Below.refl _ _).alloc (Nat.le_refl _) _) (by simp))
theorem wpList_box_hash (x : Operand) (ho : o.op = .box 58 x) (xs : List Int) (hx : a.eval x = .agg (u8s xs).toArray) (hgd : o.guard = none)
    (h : ∀ w', Blk w' w.heap.size 58 (u8s xs) → Below w.heap.size w w' → w'.heap.size = w.heap.size + 1 → wpList Tryd.prog ops Q rest (a.put o.dst (.pointer (some ⟨w.heap.size, 0, none⟩))) w') : wpList Tryd.prog ops Q (o :: rest) a w :=
  Great.wpList_boxTo hgd _ x ho _ rfl _ rfl (u8s xs).toArray (by rw [hx]; rfl) (h _ (Blk.new w _ _) ((Below.refl _ _).alloc (Nat.le_refl _) _) (by simp))
end
theorem Blk.reads {w : World} {g n : Nat} {t : TypeId} {xs : List Int} (h : Blk w g t (u8s xs)) (hn : xs.length = n) (hm : n ≤ 64) : Bs w w.heap.size (.slice (some ⟨g, 0, none⟩) n n) xs := by
  subst hn
  exact Rd.of_blk h h.lt 1 xs.length xs.length (by rw [u8s_len]; omega) (Nat.le_refl _) (by unfold maxLen; omega)
theorem RowsB.of_blk {w : World} {g B : Nat} {t : TypeId} {us : List Value} {rows : List (List Int)} (h : Blk w g t us) (hg : g < B) (hl : us.length = rows.length) (hm : rows.length ≤ 16) (hr : ∀ i (hi : i < rows.length), ∃ u, us[i]? = some u ∧ Bs w B u rows[i]) :
    RowsB w B (.slice (some ⟨g, 0, none⟩) rows.length rows.length) rows :=
  ⟨us, Rd.of_blk h hg 1 rows.length rows.length (by omega) (Nat.le_refl _) (by unfold maxLen; omega), hl, hr⟩
theorem rows_one {w : World} {g : Nat} {t : TypeId} {u : Value} {x : List Int} (h : Blk w g t [u]) (hx : Bs w w.heap.size u x) : RowsB w w.heap.size (.slice (some ⟨g, 0, none⟩) 1 1) [x] :=
  RowsB.of_blk (rows := [x]) h h.lt rfl (by simp) fun i hi => by
    obtain rfl : i = 0 := by simpa using hi
    exact ⟨u, rfl, hx⟩
theorem rows_two {w : World} {g : Nat} {t : TypeId} {u v : Value} {x y : List Int} (h : Blk w g t [u, v]) (hx : Bs w w.heap.size u x) (hy : Bs w w.heap.size v y) : RowsB w w.heap.size (.slice (some ⟨g, 0, none⟩) 2 2) [x, y] :=
  RowsB.of_blk (rows := [x, y]) h h.lt rfl (by simp) fun i hi => by
    obtain rfl | rfl : i = 0 ∨ i = 1 := by simp at hi; omega
    · exact ⟨u, rfl, hx⟩
    · exact ⟨v, rfl, hy⟩
theorem rows_three {w : World} {g : Nat} {t : TypeId} {u v q : Value} {x y z : List Int} (h : Blk w g t [u, v, q]) (hx : Bs w w.heap.size u x) (hy : Bs w w.heap.size v y) (hz : Bs w w.heap.size q z) : RowsB w w.heap.size (.slice (some ⟨g, 0, none⟩) 3 3) [x, y, z] :=
  RowsB.of_blk (rows := [x, y, z]) h h.lt rfl (by simp) fun i hi => by
    obtain rfl | rfl | rfl : i = 0 ∨ i = 1 ∨ i = 2 := by simp at hi; omega
    · exact ⟨u, rfl, hx⟩
    · exact ⟨v, rfl, hy⟩
    · exact ⟨q, rfl, hz⟩
end Go.Proofs.YtfinfkodjkfibaaDoor
