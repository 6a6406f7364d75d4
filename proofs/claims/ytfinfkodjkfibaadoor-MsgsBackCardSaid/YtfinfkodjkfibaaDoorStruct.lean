/- Structs of fields of one cell each, in blocks of their own: fields read and written, whole ones read and written; results that lie in a block. No condition. -/
import Derived.Test.YtfinfkodjkfibaaDoorOne
import Derived.Laws.ResultCell
import Derived.Laws.Tables
import Derived.Laws.Rows
namespace Go.Proofs.YtfinfkodjkfibaaDoor
open Go Go.RowKit
section
variable {P : Program} {ops : Array Oper} {rest : List Oper} {o : Oper} {a : Act} {w : World} {Q : Exit → Act → World → Prop} {g : Nat} {t : TypeId} {cs : List Value}
/-- A value is boxed: a new block of its cells. -/
theorem wpList_st_box (x : Operand) (ho : o.op = .box t x) (cs : List Value) (hx : a.eval x = .agg cs.toArray) (hgd : o.guard = none)
    (h : ∀ w', Blk w' w.heap.size t cs → Below w.heap.size w w' → w'.heap.size = w.heap.size + 1 → wpList P ops Q rest (a.put o.dst (.pointer (some ⟨w.heap.size, 0, none⟩))) w') : wpList P ops Q (o :: rest) a w :=
  Great.wpList_boxTo hgd _ x ho _ rfl _ rfl cs.toArray (by rw [hx]; rfl) (h _ (Blk.new w _ _) ((Below.refl _ _).alloc (Nat.le_refl _) _) (by simp))
/-- A field is read. -/
theorem wpList_st_get (ty : TypeId) (x : Operand) (ho : o.op = .load ty x) (off : Nat) (hx : a.eval x = .pointer (some ⟨g, off, none⟩)) (hw : Region.wanted o (yielded ops a.tmps) = true) (hB : Blk w g t cs) (d : TypeDesc) (hu : P.underlying ty = some d) (hd : d.isRow = false) (v : Value) (hc : cs[off]? = some v)
    (h : wpList P ops Q rest (a.put o.dst v) w) : wpList P ops Q (o :: rest) a w :=
  wpList_go hw fun _ hK => wp_load_one ty x ho g off hx d hu hd v (by rw [hB.cell]; exact hc) (hK _ _ h)
/-- The whole is read. -/
theorem wpList_st_all (ty : TypeId) (x : Operand) (ho : o.op = .load ty x) (hx : a.eval x = .pointer (some ⟨g, 0, none⟩)) (hw : Region.wanted o (yielded ops a.tmps) = true) (hB : Blk w g t cs) (d : TypeDesc) (hu : P.underlying ty = some d) (hd : d.isRow = true) (hi : (P.info? ty).map (·.size) = some cs.length)
    (h : wpList P ops Q rest (a.put o.dst (.agg cs.toArray)) w) : wpList P ops Q (o :: rest) a w :=
  wpList_go hw fun _ hK => wp_load_mid ty x ho g 0 hx _ d (blk_range hB 0 _ (fun j u hu => by rw [Nat.zero_add]; exact hu)) hu hd hi (hK _ _ h)
/-- A field is written. -/
theorem wpList_st_put (ty : TypeId) (x y : Operand) (ho : o.op = .store ty x y) (off : Nat) (hx : a.eval x = .pointer (some ⟨g, off, none⟩)) (hgd : o.guard = none) (hB : Blk w g t cs) (hlt : off < cs.length) (v : Value) (hy : a.eval y = v) (h1 : v.oneCell' = true) (hi : (P.info? ty).map (·.size) = some 1)
    (h : ∀ w', Blk w' g t (cs.set off v) → w.grownBy w' (some g) → w'.heap.size = w.heap.size → wpList P ops Q rest (a.put o.dst undef) w') : wpList P ops Q (o :: rest) a w := by
  have hg := grown_setCells (g := g) [v] w off
  exact wpList_plain hgd fun _ hK => wp_store_one ty x y ho g off hx _ hy (by rw [hB.cell, List.getElem?_eq_getElem hlt]; rfl) (hB.frozen _) h1 hi (hK _ _ (h _ (hB.set_ _ _) hg.1 hg.2))
/-- The whole is written. -/
theorem wpList_st_putAll (ty : TypeId) (x y : Operand) (ho : o.op = .store ty x y) (hx : a.eval x = .pointer (some ⟨g, 0, none⟩)) (hgd : o.guard = none) (hB : Blk w g t cs) (vs : List Value) (hy : a.eval y = .agg vs.toArray) (hl : cs.length = vs.length) (hi : (P.info? ty).map (·.size) = some vs.length) (h1 : ∀ u ∈ vs, u.oneCell' = true)
    (h : ∀ w', Blk w' g t vs → w.grownBy w' (some g) → w'.heap.size = w.heap.size → wpList P ops Q rest (a.put o.dst undef) w') : wpList P ops Q (o :: rest) a w :=
  wpList_store_blk hgd ty x y ho g 0 vs hx hy t cs hB (by omega) hi h1 fun w' a1 a2 a3 => h w' (by rw [lset_all _ _ hl] at a1; exact a1) a2 a3
/-- A struct is built. -/
theorem wpList_st_build (ty : TypeId) (parts : Array (Nat × Operand)) (ho : o.op = .build ty parts) (hw : Region.wanted o (yielded ops a.tmps) = true) (cs : List Value) (hb : P.built ty (parts.map fun (i, x) => (i, a.eval x)).toList = some cs.toArray)
    (h : wpList P ops Q rest (a.put o.dst (.agg cs.toArray)) w) : wpList P ops Q (o :: rest) a w :=
  wpList_go hw fun _ hK => wp_build ty parts ho (by rw [hb]; rfl) (by rw [hb]; exact hK _ _ h)
theorem wpList_st_build1 (ty : TypeId) (k0 : Nat) (x0 : Operand) (ho : o.op = .build ty #[(k0, x0)]) (hw : Region.wanted o (yielded ops a.tmps) = true) (u0 : Value) (h0 : a.eval x0 = u0) (cs : List Value) (hb : P.built ty [(k0, u0)] = some cs.toArray)
    (h : wpList P ops Q rest (a.put o.dst (.agg cs.toArray)) w) : wpList P ops Q (o :: rest) a w :=
  wpList_st_build ty _ ho hw cs (by simp only [List.map_toArray, List.map_cons, List.map_nil, h0]; exact hb) h
theorem wpList_st_build2 (ty : TypeId) (k0 k1 : Nat) (x0 x1 : Operand) (ho : o.op = .build ty #[(k0, x0), (k1, x1)]) (hw : Region.wanted o (yielded ops a.tmps) = true) (u0 u1 : Value) (h0 : a.eval x0 = u0) (h1 : a.eval x1 = u1) (cs : List Value) (hb : P.built ty [(k0, u0), (k1, u1)] = some cs.toArray)
    (h : wpList P ops Q rest (a.put o.dst (.agg cs.toArray)) w) : wpList P ops Q (o :: rest) a w :=
  wpList_st_build ty _ ho hw cs (by simp only [List.map_toArray, List.map_cons, List.map_nil, h0, h1]; exact hb) h
/-- A struct in a block and one value more are handed back. -/
theorem results_st {fn : Func} {p u : Tmp} {ty : TypeId} (h : fn.results = #[.cell p ty, .tmp u]) (tmps : Array Value) (w : World) (g : Nat) (t : TypeId) (cs : List Value)
    (hp : tmps.getD p undef = .pointer (some ⟨g, 0, none⟩)) (hB : Blk w g t cs) (d : TypeDesc) (hu : P.underlying ty = some d) (hd : (match d with | .struct _ | .array _ _ => true | _ => false) = true) (hi : (P.info? ty).map (·.size) = some cs.length) (v : Value) (hv : tmps.getD u undef = v) : (results fn tmps).run P w = .ok (.tuple #[.agg cs.toArray, v]) w := by
  rw [results_cell_tmp h, hp, hv]
  have := run_loadVar_row w g t ty cs.toArray (0, 0) d hB hu hd (by rw [List.size_toArray]; exact hi)
  simp only [asAddr, Sem.run_pure, Result.andThen_ok, this]
end
theorem two_one {u v : Value} (h1 : u.oneCell' = true) (h2 : v.oneCell' = true) : ∀ x ∈ [u, v], x.oneCell' = true := fun x hx => by
  simp only [List.mem_cons, List.not_mem_nil, or_false] at hx
  rcases hx with rfl | rfl <;> assumption
end Go.Proofs.YtfinfkodjkfibaaDoor
