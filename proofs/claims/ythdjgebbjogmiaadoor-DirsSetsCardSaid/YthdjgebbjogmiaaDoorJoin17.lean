/- Packing, entry by entry: small laws. No program in sight.
Rows of the call's own from a literal of rows. No condition.
Structs of fields of one cell each, in blocks of their own: fields read and written, whole ones read and written; results that lie in a block. No condition.
Entries in memory: an entry's cells, slices of entries. No condition.
Rows from literals of two and of three rows. No condition. -/
import Derived.Test.YthdjgebbjogmiaaDoorPackLaw
import Derived.Test.YthdjgebbjogmiaaDoorJoin10
import Derived.Test.YthdjgebbjogmiaaDoorJoin4
import Derived.Test.YthdjgebbjogmiaaDoorJoin3
import Derived.Great.Ranges
import Derived.Great.BuildSlice
import Derived.Great.FillDense
import Derived.Test.YthdjgebbjogmiaaDoorJoin6
import Derived.Laws.ResultCell
import Derived.Laws.Tables
import Derived.Laws.Rows
import Derived.Test.YthdjgebbjogmiaaDoorCap
import Derived.Test.YthdjgebbjogmiaaDoorJoin12
set_option linter.unusedVariables false
set_option linter.unusedSimpArgs false
namespace Go.Proofs.YthdjgebbjogmiaaDoor
open Go Go.RowKit
set_option maxRecDepth 100000
theorem packF_take (key : List Int) (l : List EntD) (i : Nat) (h : i < l.length) : packF key (l.take (i + 1)) = packF key (l.take i) ++ netF (netsF (rowE key l[i])) := by
 rw [List.take_succ_eq_append_getElem h, packF_snoc]
theorem packF_small (key : List Int) (l : List EntD) (h : ∀ e ∈ l, e.Wf ∧ e.name.length ≤ 64) (hn : l.length ≤ 16) (i : Nat) : (packF key (l.take i)).length ≤ 11008 := by
 have h1 := packF_len key (l.take i) (fun e he => h e (List.mem_of_mem_take he))
 have h2 := List.length_take_le' i l
 omega
theorem rowE_bytes (key : List Int) {e : EntD} (h : Bytes e.name) : ∀ x ∈ rowE key e, Bytes x := fun x hx => by
 simp only [rowE, List.mem_cons, List.not_mem_nil, or_false] at hx
 rcases hx with rfl | rfl | rfl
 · exact h
 · exact printB_bytes _
 · split
   · exact kidF_bytes _ _ (printB_bytes _)
   · exact fun x hx => by cases hx
theorem netF_bytes_ {x : List Int} (h : Bytes x) : Bytes (netF x) := netF_bytes h
theorem netsF_bytes_ : ∀ {l : List (List Int)}, (∀ x ∈ l, Bytes x) → Bytes (netsF l)
 | [], _ => fun x hx => by cases hx
 | y :: l, h => by
  rw [d_netsF_cons]
  exact (netF_bytes (h y List.mem_cons_self)).app (netsF_bytes_ (fun x hx => h x (List.mem_cons_of_mem _ hx)))
theorem valid_litL {c : CapD} (h : c.Valid) : c.lit.length ≤ 64 := by unfold CapD.Valid at h; omega
/-- What Pack answers. -/
def packOk (c : CapD) (l : List EntD) : Bool := (decide c.Valid && (c.kind == 7)) && rightB l
def packR (c : CapD) (l : List EntD) : List Int := if packOk c l then packF c.key l else []
def packE (c : CapD) (l : List EntD) : Int := if (decide c.Valid && (c.kind == 7)) then (if rightB l then 0 else 1) else 10
end Go.Proofs.YthdjgebbjogmiaaDoor

namespace Go.Proofs.YthdjgebbjogmiaaDoor
open Go Go.RowKit
set_option maxRecDepth 100000

section
variable {o : Oper} {a : Act} {w : World} {K : Act → World → Prop} {Q : Exit → Act → World → Prop} {ops : Array Oper} {rest : List Oper}
theorem wp_rows_lit (len : Nat) (parts : Array (Nat × Operand)) (ho : o.op = .buildSlice 73 len parts) (us : List Value) (hl : us.length = len) (h0 : 0 < len) (hs : len ≤ 16)
 (hp : (parts.map fun (i, x) => (i, a.eval x)).toList = (us.zipIdx 0).map fun x => (x.2, x.1)) (h1 : ∀ v ∈ us, v.cells = #[v])
 (h : ∀ w', Blk w' w.heap.size 26 us → Below w.heap.size w w' → K (a.put o.dst (.slice (some ⟨w.heap.size, 0, none⟩) len len)) w') : o.wp Tryd.prog a w K Q := by
 obtain ⟨i, z, ht, hi, hz, hsize, hby, hzs, _, _⟩ := el_brows
 refine wp_buildSlice 73 26 len parts ho us.toArray i z ht hi hz (by rw [hsize]; omega) (by rw [hsize]; omega) ?_ (h _ (Blk.new w 26 us) ((Below.refl _ _).alloc (Nat.le_refl _) _))
 rw [hp, hsize]
 exact Great.fill_flat us _ h1 (by simp [hl])
theorem wpList_rows_lit (hgd : o.guard = none) (len : Nat) (parts : Array (Nat × Operand)) (ho : o.op = .buildSlice 73 len parts) (us : List Value) (hl : us.length = len) (h0 : 0 < len) (hs : len ≤ 16)
 (hp : (parts.map fun (i, x) => (i, a.eval x)).toList = (us.zipIdx 0).map fun x => (x.2, x.1)) (h1 : ∀ v ∈ us, v.cells = #[v])
 (h : ∀ w', Blk w' w.heap.size 26 us → Below w.heap.size w w' → wpList Tryd.prog ops Q rest (a.put o.dst (.slice (some ⟨w.heap.size, 0, none⟩) len len)) w') : wpList Tryd.prog ops Q (o :: rest) a w :=
 wpList_plain hgd fun _ hK => wp_rows_lit len parts ho us hl h0 hs hp h1 fun w' a1 a2 => hK _ _ (h w' a1 a2)
theorem wpList_rows1 (hgd : o.guard = none) (x : Operand) (ho : o.op = .buildSlice 73 1 #[(0, x)]) (u : Value) (hx : a.eval x = u) (h1 : u.cells = #[u])
 (h : ∀ w', Blk w' w.heap.size 26 [u] → Below w.heap.size w w' → wpList Tryd.prog ops Q rest (a.put o.dst (.slice (some ⟨w.heap.size, 0, none⟩) 1 1)) w') : wpList Tryd.prog ops Q (o :: rest) a w :=
 wpList_rows_lit hgd 1 _ ho [u] rfl (by omega) (by omega) (by simp [hx]) (by intro v hv; simp at hv; subst hv; exact h1) h
theorem wp_rows1D (d : Nat) (hd : o.dst = some d) (x : Operand) (ho : o.op = .buildSlice 73 1 #[(0, x)]) (u : Value) (hx : a.eval x = u) (h1 : u.cells = #[u])
 (h : ∀ w', Blk w' w.heap.size 26 [u] → Below w.heap.size w w' → K (a.put (some d) (.slice (some ⟨w.heap.size, 0, none⟩) 1 1)) w') : o.wp Tryd.prog a w K Q :=
 wp_rows_lit 1 _ ho [u] rfl (by omega) (by omega) (by simp [hx]) (by intro v hv; simp at hv; subst hv; exact h1) (by rw [hd]; exact h)
theorem wpList_box_key (x : Operand) (ho : o.op = .box 23 x) (xs : List Int) (hx : a.eval x = .agg (u8s xs).toArray) (hgd : o.guard = none)
 (h : ∀ w', Blk w' w.heap.size 23 (u8s xs) → Below w.heap.size w w' → w'.heap.size = w.heap.size + 1 → wpList Tryd.prog ops Q rest (a.put o.dst (.pointer (some ⟨w.heap.size, 0, none⟩))) w') : wpList Tryd.prog ops Q (o :: rest) a w :=
 Great.wpList_boxTo hgd _ x ho _ rfl _ rfl (u8s xs).toArray (by rw [hx]; rfl) (h _ (Blk.new w _ _) ((Below.refl _ _).alloc (Nat.le_refl _) _) (by simp))
theorem wpList_box_hash (x : Operand) (ho : o.op = .box 25 x) (xs : List Int) (hx : a.eval x = .agg (u8s xs).toArray) (hgd : o.guard = none)
 (h : ∀ w', Blk w' w.heap.size 25 (u8s xs) → Below w.heap.size w w' → w'.heap.size = w.heap.size + 1 → wpList Tryd.prog ops Q rest (a.put o.dst (.pointer (some ⟨w.heap.size, 0, none⟩))) w') : wpList Tryd.prog ops Q (o :: rest) a w :=
 Great.wpList_boxTo hgd _ x ho _ rfl _ rfl (u8s xs).toArray (by rw [hx]; rfl) (h _ (Blk.new w _ _) ((Below.refl _ _).alloc (Nat.le_refl _) _) (by simp))
end
theorem Blk.reads {w : World} {g n : Nat} {t : TypeId} {xs : List Int} (h : Blk w g t (u8s xs)) (hn : xs.length = n) (hm : n ≤ 64) : Bs w w.heap.size (.slice (some ⟨g, 0, none⟩) n n) xs := by
 subst hn
 exact Rd.of_blk h h.lt 1 xs.length xs.length (by rw [u8s_len]; omega) (Nat.le_refl _) (by unfold maxLen; omega)
theorem RowsB.of_blk {w : World} {g B : Nat} {t : TypeId} {us : List Value} {rows : List (List Int)} (h : Blk w g t us) (hg : g < B) (hl : us.length = rows.length) (hm : rows.length ≤ 16) (hr : ∀ i (hi : i < rows.length), ∃ u, us[i]? = some u ∧ Bs w B u rows[i]) :
 RowsB w B (.slice (some ⟨g, 0, none⟩) rows.length rows.length) rows :=
 ⟨us, Rd.of_blk h hg 1 rows.length rows.length (by omega) (Nat.le_refl _) (by unfold maxLen; omega), hl, hr⟩
theorem rows_one {w : World} {g : Nat} {t : TypeId} {u : Value} {x : List Int} (h : Blk w g t [u]) (hx : Bs w w.heap.size u x) : RowsB w w.heap.size (.slice (some ⟨g, 0, none⟩) 1 1) [x] :=
 RowsB.of_blk (rows := [x]) h h.lt rfl (by simp) fun i hi => by
  obtain rfl : i = 0 := by simpa using hi
  exact ⟨u, rfl, hx⟩
theorem rows_two {w : World} {g : Nat} {t : TypeId} {u v : Value} {x y : List Int} (h : Blk w g t [u, v]) (hx : Bs w w.heap.size u x) (hy : Bs w w.heap.size v y) : RowsB w w.heap.size (.slice (some ⟨g, 0, none⟩) 2 2) [x, y] :=
 RowsB.of_blk (rows := [x, y]) h h.lt rfl (by simp) fun i hi => by
  obtain rfl | rfl : i = 0 ∨ i = 1 := by simp at hi; omega
  · exact ⟨u, rfl, hx⟩
  · exact ⟨v, rfl, hy⟩
theorem rows_three {w : World} {g : Nat} {t : TypeId} {u v q : Value} {x y z : List Int} (h : Blk w g t [u, v, q]) (hx : Bs w w.heap.size u x) (hy : Bs w w.heap.size v y) (hz : Bs w w.heap.size q z) : RowsB w w.heap.size (.slice (some ⟨g, 0, none⟩) 3 3) [x, y, z] :=
 RowsB.of_blk (rows := [x, y, z]) h h.lt rfl (by simp) fun i hi => by
  obtain rfl | rfl | rfl : i = 0 ∨ i = 1 ∨ i = 2 := by simp at hi; omega
  · exact ⟨u, rfl, hx⟩
  · exact ⟨v, rfl, hy⟩
  · exact ⟨q, rfl, hz⟩
end Go.Proofs.YthdjgebbjogmiaaDoor

namespace Go.Proofs.YthdjgebbjogmiaaDoor
open Go Go.RowKit
set_option maxRecDepth 100000
section
variable {P : Program} {ops : Array Oper} {rest : List Oper} {o : Oper} {a : Act} {w : World} {Q : Exit → Act → World → Prop} {g : Nat} {t : TypeId} {cs : List Value}
/-- A value is boxed: a new block of its cells. -/
theorem wpList_st_box (x : Operand) (ho : o.op = .box t x) (cs : List Value) (hx : a.eval x = .agg cs.toArray) (hgd : o.guard = none)
 (h : ∀ w', Blk w' w.heap.size t cs → Below w.heap.size w w' → w'.heap.size = w.heap.size + 1 → wpList P ops Q rest (a.put o.dst (.pointer (some ⟨w.heap.size, 0, none⟩))) w') : wpList P ops Q (o :: rest) a w :=
 Great.wpList_boxTo hgd _ x ho _ rfl _ rfl cs.toArray (by rw [hx]; rfl) (h _ (Blk.new w _ _) ((Below.refl _ _).alloc (Nat.le_refl _) _) (by simp))
/-- A field is read. -/
theorem wpList_st_get (ty : TypeId) (x : Operand) (ho : o.op = .load ty x) (off : Nat) (hx : a.eval x = .pointer (some ⟨g, off, none⟩)) (hw : Region.wanted o (yielded ops a.tmps) = true) (hB : Blk w g t cs) (d : TypeDesc) (hu : P.underlying ty = some d) (hd : d.isRow = false) (v : Value) (hc : cs[off]? = some v)
 (h : wpList P ops Q rest (a.put o.dst v) w) : wpList P ops Q (o :: rest) a w :=
 wpList_go hw fun _ hK => wp_load_one ty x ho g off hx d hu hd v (by rw [hB.cell]; exact hc) (hK _ _ h)
/-- The whole is read. -/
theorem wpList_st_all (ty : TypeId) (x : Operand) (ho : o.op = .load ty x) (hx : a.eval x = .pointer (some ⟨g, 0, none⟩)) (hw : Region.wanted o (yielded ops a.tmps) = true) (hB : Blk w g t cs) (d : TypeDesc) (hu : P.underlying ty = some d) (hd : d.isRow = true) (hi : (P.info? ty).map (·.size) = some cs.length)
 (h : wpList P ops Q rest (a.put o.dst (.agg cs.toArray)) w) : wpList P ops Q (o :: rest) a w :=
 wpList_go hw fun _ hK => wp_load_mid ty x ho g 0 hx _ d (blk_range hB 0 _ (fun j u hu => by rw [Nat.zero_add]; exact hu)) hu hd hi (hK _ _ h)
/-- A field is written. -/
theorem wpList_st_put (ty : TypeId) (x y : Operand) (ho : o.op = .store ty x y) (off : Nat) (hx : a.eval x = .pointer (some ⟨g, off, none⟩)) (hgd : o.guard = none) (hB : Blk w g t cs) (hlt : off < cs.length) (v : Value) (hy : a.eval y = v) (h1 : v.oneCell' = true) (hi : (P.info? ty).map (·.size) = some 1)
 (h : ∀ w', Blk w' g t (cs.set off v) → w.grownBy w' (some g) → w'.heap.size = w.heap.size → wpList P ops Q rest (a.put o.dst undef) w') : wpList P ops Q (o :: rest) a w := by
 have hg := grown_setCells (g := g) [v] w off
 exact wpList_plain hgd fun _ hK => wp_store_one ty x y ho g off hx _ hy (by rw [hB.cell, List.getElem?_eq_getElem hlt]; rfl) (hB.frozen _) h1 hi (hK _ _ (h _ (hB.set_ _ _) hg.1 hg.2))
/-- The whole is written. -/
theorem wpList_st_putAll (ty : TypeId) (x y : Operand) (ho : o.op = .store ty x y) (hx : a.eval x = .pointer (some ⟨g, 0, none⟩)) (hgd : o.guard = none) (hB : Blk w g t cs) (vs : List Value) (hy : a.eval y = .agg vs.toArray) (hl : cs.length = vs.length) (hi : (P.info? ty).map (·.size) = some vs.length) (h1 : ∀ u ∈ vs, u.oneCell' = true)
 (h : ∀ w', Blk w' g t vs → w.grownBy w' (some g) → w'.heap.size = w.heap.size → wpList P ops Q rest (a.put o.dst undef) w') : wpList P ops Q (o :: rest) a w :=
 wpList_store_blk hgd ty x y ho g 0 vs hx hy t cs hB (by omega) hi h1 fun w' a1 a2 a3 => h w' (by rw [lset_all _ _ hl] at a1; exact a1) a2 a3
/-- A struct is built. -/
theorem wpList_st_build (ty : TypeId) (parts : Array (Nat × Operand)) (ho : o.op = .build ty parts) (hw : Region.wanted o (yielded ops a.tmps) = true) (cs : List Value) (hb : P.built ty (parts.map fun (i, x) => (i, a.eval x)).toList = some cs.toArray)
 (h : wpList P ops Q rest (a.put o.dst (.agg cs.toArray)) w) : wpList P ops Q (o :: rest) a w :=
 wpList_go hw fun _ hK => wp_build ty parts ho (by rw [hb]; rfl) (by rw [hb]; exact hK _ _ h)
/-- A struct in a block and one value more are handed back. -/
theorem results_st {fn : Func} {p u : Tmp} {ty : TypeId} (h : fn.results = #[.cell p ty, .tmp u]) (tmps : Array Value) (w : World) (g : Nat) (t : TypeId) (cs : List Value)
 (hp : tmps.getD p undef = .pointer (some ⟨g, 0, none⟩)) (hB : Blk w g t cs) (d : TypeDesc) (hu : P.underlying ty = some d) (hd : (match d with | .struct _ | .array _ _ => true | _ => false) = true) (hi : (P.info? ty).map (·.size) = some cs.length) (v : Value) (hv : tmps.getD u undef = v) : (results fn tmps).run P w = .ok (.tuple #[.agg cs.toArray, v]) w := by
 rw [results_cell_tmp h, hp, hv]
 have := run_loadVar_row w g t ty cs.toArray (0, 0) d hB hu hd (by rw [List.size_toArray]; exact hi)
 simp only [asAddr, Sem.run_pure, Result.andThen_ok, this]
end
end Go.Proofs.YthdjgebbjogmiaaDoor

namespace Go.Proofs.YthdjgebbjogmiaaDoor
open Go Go.RowKit
set_option linter.unusedVariables false
set_option maxRecDepth 100000
theorem bs_one_ {w : World} {B : Nat} {v : Value} {xs : List Int} (h : Bs w B v xs) : v.oneCell' = true := by
 obtain ⟨A, c, rfl, _⟩ := h.open_
 rfl
theorem cc_ones {c : CapD} {lit : Value} (h3 : lit.oneCell' = true) : ∀ u ∈ capCells c lit, u.oneCell' = true := fun u hu => by
 unfold capCells at hu
 simp only [List.mem_cons, List.mem_append, List.not_mem_nil, or_false] at hu
 rcases hu with rfl | hu | hu | rfl | rfl | rfl | rfl
 · rfl
 · exact u8s_one _ _ hu
 · exact u8s_one _ _ hu
 · rfl
 · rfl
 · rfl
 · exact h3
/-- An entry's cells. -/
def entC (e : EntD) (lr lw : Value) : List Value := .string (strOfNums e.name) :: (capCells e.read lr ++ (capCells e.write lw ++ [.bool e.has]))
/-- What stands of an entry's literals. -/
structure EntOk (w : World) (B : Nat) (e : EntD) (lr lw : Value) : Prop extends e.Wf where
 r1 : Bs w B lr e.read.lit
 w1 : Bs w B lw e.write.lit
section
variable {w w' : World} {B B' : Nat} {e : EntD} {lr lw : Value}
theorem EntOk.below (h : EntOk w B e lr lw) (hb : Below B' w w') (hB : B ≤ B') : EntOk w' B e lr lw := { h with r1 := h.r1.below hb hB, w1 := h.w1.below hb hB }
theorem EntOk.more (h : EntOk w B e lr lw) (hB : B ≤ B') : EntOk w B' e lr lw := { h with r1 := h.r1.more hB, w1 := h.w1.more hB }
theorem EntOk.keyR (h : EntOk w B e lr lw) : e.read.key.length = 16 := h.rWf.keyL
theorem ent_len (h : EntOk w B e lr lw) : (entC e lr lw).length = 108 := by
 simp [entC, cc_len lr h.rWf.keyL h.rWf.fpL, cc_len lw h.wWf.keyL h.wWf.fpL]
theorem ent_name : (entC e lr lw)[0]? = some (.string (strOfNums e.name)) := rfl
theorem ent_read (h : EntOk w B e lr lw) (j : Nat) (u : Value) (hu : (capCells e.read lr)[j]? = some u) : (entC e lr lw)[1 + j]? = some u := by
 unfold entC
 rw [Nat.add_comm, List.getElem?_cons_succ, List.getElem?_append_left (List.getElem?_eq_some_iff.1 hu).1]
 exact hu
theorem ent_write (h : EntOk w B e lr lw) (j : Nat) (u : Value) (hu : (capCells e.write lw)[j]? = some u) : (entC e lr lw)[54 + j]? = some u := by
 unfold entC
 have hl := cc_len lr h.rWf.keyL h.rWf.fpL
 rw [show 54 + j = (53 + j) + 1 by omega, List.getElem?_cons_succ, List.getElem?_append_right (by omega), hl, show 53 + j - 53 = j by omega, List.getElem?_append_left (List.getElem?_eq_some_iff.1 hu).1]
 exact hu
theorem ent_has (h : EntOk w B e lr lw) : (entC e lr lw)[107]? = some (.bool e.has) := by
 unfold entC
 have hl := cc_len lr h.rWf.keyL h.rWf.fpL
 have hl2 := cc_len lw h.wWf.keyL h.wWf.fpL
 rw [List.getElem?_cons_succ, List.getElem?_append_right (by omega), hl, List.getElem?_append_right (by omega), hl2]
 rfl
theorem ent_ones (h : EntOk w B e lr lw) : ∀ u ∈ entC e lr lw, u.oneCell' = true := fun u hu => by
 unfold entC at hu
 rcases List.mem_cons.1 hu with rfl | hu
 · rfl
 rcases List.mem_append.1 hu with hu | hu
 · exact cc_ones (bs_one_ h.r1) u hu
 rcases List.mem_append.1 hu with hu | hu
 · exact cc_ones (bs_one_ h.w1) u hu
 · obtain rfl := List.mem_singleton.1 hu
   rfl
end
/-- A slice of entries. -/
def EntsB (w : World) (B : Nat) (v : Value) (l : List EntD) : Prop := ∃ (A : Option Addr) (c : Nat), v = .slice A l.length c ∧ l.length ≤ c ∧ c ≤ maxLen ∧
 (0 < l.length → ∃ b o, A = some ⟨b, o, none⟩ ∧ b < B ∧ ∀ i (hi : i < l.length), ∃ lr lw, EntOk w B l[i] lr lw ∧ w.rangeAt b (o + i * 108) (entC l[i] lr lw))
section
variable {w w' : World} {B B' : Nat} {v : Value} {l : List EntD}
theorem EntsB.below (h : EntsB w B v l) (hb : Below B' w w') (hB : B ≤ B') : EntsB w' B v l := by
 obtain ⟨A, c, rfl, h1, h2, h3⟩ := h
 refine ⟨A, c, rfl, h1, h2, fun hp => ?_⟩
 obtain ⟨b, o, e, hbB, hc⟩ := h3 hp
 refine ⟨b, o, e, hbB, fun i hi => ?_⟩
 obtain ⟨lr, lw, ho, hr⟩ := hc i hi
 exact ⟨lr, lw, ho.below hb hB, fun j u hu => by rw [hb.cell (Nat.lt_of_lt_of_le hbB hB)]; exact hr j u hu⟩
theorem EntsB.more (h : EntsB w B v l) (hB : B ≤ B') : EntsB w B' v l := by
 obtain ⟨A, c, rfl, h1, h2, h3⟩ := h
 refine ⟨A, c, rfl, h1, h2, fun hp => ?_⟩
 obtain ⟨b, o, e, hbB, hc⟩ := h3 hp
 exact ⟨b, o, e, Nat.lt_of_lt_of_le hbB hB, fun i hi => by obtain ⟨lr, lw, ho, hr⟩ := hc i hi; exact ⟨lr, lw, ho.more hB, hr⟩⟩
theorem EntsB.nil_ (w : World) (B : Nat) : EntsB w B (.slice none 0 0) [] := ⟨none, 0, rfl, Nat.le_refl _, by unfold maxLen; omega, fun h => absurd h (by simp)⟩
theorem EntsB.one (h : EntsB w B v l) : v.oneCell' = true := by
 obtain ⟨A, c, rfl, _⟩ := h
 rfl
end
section
variable {ops : Array Oper} {rest : List Oper} {o : Oper} {a : Act} {w : World} {Q : Exit → Act → World → Prop}
theorem wpList_val_ (hw : Region.wanted o (yielded ops a.tmps) = true) {v : Value} (h0 : (execOp a.eval o).run Tryd.prog w = .ok (.value v) w) (h : wpList Tryd.prog ops Q rest (a.put o.dst v) w) : wpList Tryd.prog ops Q (o :: rest) a w :=
 wpList_go hw fun _ hK => wp_value v h0 (hK _ _ h)
end
theorem size_ent : (Tryd.prog.info? 45).map (·.size) = some 108 := by kernel_rfl
theorem zero_ent : (Tryd.prog.info? 45).map (·.zero) = some (some (.agg (entC EntD.none_ (.slice none 0 0) (.slice none 0 0)).toArray)) := by kernel_rfl
theorem built_ent0 : Tryd.prog.built 45 [] = some (entC EntD.none_ (.slice none 0 0) (.slice none 0 0)).toArray := by kernel_rfl
end Go.Proofs.YthdjgebbjogmiaaDoor

namespace Go.Proofs.YthdjgebbjogmiaaDoor
open Go Go.RowKit
set_option maxRecDepth 100000
theorem cells_one_ {v : Value} (h : v.oneCell' = true) : v.cells = #[v] := by
 cases v <;> first | rfl | cases h
section
variable {o : Oper} {a : Act} {w : World} {Q : Exit → Act → World → Prop} {ops : Array Oper} {rest : List Oper}
theorem wpList_rows2 (hgd : o.guard = none) (x y : Operand) (ho : o.op = .buildSlice 73 2 #[(0, x), (1, y)]) (u v : Value) (hx : a.eval x = u) (hy : a.eval y = v) (h1 : u.cells = #[u]) (h2 : v.cells = #[v])
 (h : ∀ w', Blk w' w.heap.size 26 [u, v] → Below w.heap.size w w' → wpList Tryd.prog ops Q rest (a.put o.dst (.slice (some ⟨w.heap.size, 0, none⟩) 2 2)) w') : wpList Tryd.prog ops Q (o :: rest) a w :=
 wpList_rows_lit hgd 2 _ ho [u, v] rfl (by omega) (by omega) (by simp [hx, hy]) (by intro q hq; simp at hq; rcases hq with rfl | rfl <;> assumption) h
theorem wp_to_stringD {K : Act → World → Prop} (d : Nat) (hd : o.dst = some d) (x : Operand) (ho : o.op = .convert 26 9 x) (B : Nat) (v : Value) (xs : List Int) (hx : a.eval x = v) (hv : Bs w B v xs)
 (h : K (a.put (some d) (.string (strOfNums xs))) w) : o.wp Tryd.prog a w K Q :=
 wp_convert _ _ x _ _ ho hx (run_to_string w B v xs hv) (by rw [hd]; exact h)
theorem wpList_rows3 (hgd : o.guard = none) (x y z : Operand) (ho : o.op = .buildSlice 73 3 #[(0, x), (1, y), (2, z)]) (u v q : Value) (hx : a.eval x = u) (hy : a.eval y = v) (hz : a.eval z = q) (h1 : u.cells = #[u]) (h2 : v.cells = #[v]) (h3 : q.cells = #[q])
 (h : ∀ w', Blk w' w.heap.size 26 [u, v, q] → Below w.heap.size w w' → wpList Tryd.prog ops Q rest (a.put o.dst (.slice (some ⟨w.heap.size, 0, none⟩) 3 3)) w') : wpList Tryd.prog ops Q (o :: rest) a w :=
 wpList_rows_lit hgd 3 _ ho [u, v, q] rfl (by omega) (by omega) (by simp [hx, hy, hz]) (by intro r hr; simp at hr; rcases hr with rfl | rfl | rfl <;> assumption) h
end
end Go.Proofs.YthdjgebbjogmiaaDoor
