/- A capability in a block of its own: its fields read and written inside a walk. No condition. -/
import Derived.Test.YthdjgebbjogmiaaDoorJoin6
import Derived.Test.YthdjgebbjogmiaaDoorJoin1
import Derived.Test.YthdjgebbjogmiaaDoorJoin2
import Derived.Great.Ranges
import Derived.Laws.StructEq
set_option linter.unusedVariables false
set_option linter.unusedSimpArgs false
namespace Go.Proofs.YthdjgebbjogmiaaDoor
open Go Go.RowKit


/-- A capability lies whole in block g. -/
structure CapB (w : World) (g : Nat) (c : CapD) (lit : Value) : Prop where
 blk : Blk w g 28 (capCells c lit)
 keyL : c.key.length = 16
 fpL : c.fp.length = 32
 one : lit.oneCell' = true

theorem cc_len {c : CapD} (lit : Value) (h1 : c.key.length = 16) (h2 : c.fp.length = 32) : (capCells c lit).length = 53 := by
 simp [capCells, u8s_len, h1, h2]
/-- The number in a cell. -/
def capInt (c : CapD) : Nat → Option Int
 | 0 => some c.kind
 | 49 => some c.K
 | 50 => some c.N
 | 51 => some c.S
 | _ => none
def capPut (c : CapD) (n : Int) : Nat → Option CapD
 | 0 => some { c with kind := n }
 | 49 => some { c with K := n }
 | 50 => some { c with N := n }
 | 51 => some { c with S := n }
 | _ => none
theorem cc_tail {c : CapD} (lit : Value) (h1 : c.key.length = 16) (h2 : c.fp.length = 32) (j : Nat) : (capCells c lit)[49 + j]? = [Value.int .i64 c.K, Value.int .i64 c.N, Value.int .i64 c.S, lit][j]? := by
 unfold capCells
 rw [show 49 + j = (48 + j) + 1 by omega, List.getElem?_cons_succ, List.getElem?_append_right (by rw [u8s_len]; omega), List.getElem?_append_right (by rw [u8s_len, u8s_len]; omega), u8s_len, u8s_len, h1, h2]
 congr 1
 omega
theorem cc_int {c : CapD} {lit : Value} (h1 : c.key.length = 16) (h2 : c.fp.length = 32) {off : Nat} {n : Int} (h : capInt c off = some n) : (capCells c lit)[off]? = some (.int .i64 n) := by
 unfold capInt at h
 split at h
 · injection h with h; subst h; rfl
 · injection h with h; subst h; exact cc_tail lit h1 h2 0
 · injection h with h; subst h; exact cc_tail lit h1 h2 1
 · injection h with h; subst h; exact cc_tail lit h1 h2 2
 · cases h
theorem cc_lit {c : CapD} {lit : Value} (h1 : c.key.length = 16) (h2 : c.fp.length = 32) : (capCells c lit)[52]? = some lit := cc_tail lit h1 h2 3
theorem cc_key {c : CapD} {lit : Value} (h1 : c.key.length = 16) (j : Nat) (u : Value) (h : (u8s c.key)[j]? = some u) : (capCells c lit)[1 + j]? = some u := by
 have hj : j < 16 := by have := (List.getElem?_eq_some_iff.1 h).1; rw [u8s_len] at this; omega
 unfold capCells
 rw [show 1 + j = j + 1 by omega, List.getElem?_cons_succ, List.getElem?_append_left (by rw [u8s_len]; omega)]
 exact h
theorem cc_fp {c : CapD} {lit : Value} (h1 : c.key.length = 16) (h2 : c.fp.length = 32) (j : Nat) (u : Value) (h : (u8s c.fp)[j]? = some u) : (capCells c lit)[17 + j]? = some u := by
 have hj : j < 32 := by have := (List.getElem?_eq_some_iff.1 h).1; rw [u8s_len] at this; omega
 unfold capCells
 rw [show 17 + j = (16 + j) + 1 by omega, List.getElem?_cons_succ, List.getElem?_append_right (by rw [u8s_len]; omega), u8s_len, h1, List.getElem?_append_left (by rw [u8s_len]; omega), ← h]
 congr 1
 omega
theorem set_mid (l r : List Value) (x y : Value) (n : Nat) (h : l.length = n) : (l ++ x :: r).set n y = l ++ y :: r := by
 subst h
 simp
theorem cc_split {c : CapD} (lit : Value) : capCells c lit = (Value.int .i64 c.kind :: (u8s c.key ++ u8s c.fp)) ++ [Value.int .i64 c.K, Value.int .i64 c.N, Value.int .i64 c.S, lit] := by simp [capCells]
theorem cc_setTail {c : CapD} (lit : Value) (h1 : c.key.length = 16) (h2 : c.fp.length = 32) (j : Nat) (u : Value) : (capCells c lit).set (49 + j) u = (Value.int .i64 c.kind :: (u8s c.key ++ u8s c.fp)) ++ [Value.int .i64 c.K, Value.int .i64 c.N, Value.int .i64 c.S, lit].set j u := by
 rw [cc_split, List.set_append_right _ _ (by simp [u8s_len]; omega)]
 congr 2
 simp [u8s_len]; omega
theorem cc_put {c c' : CapD} {lit : Value} (h1 : c.key.length = 16) (h2 : c.fp.length = 32) {off : Nat} {n : Int} (h : capPut c n off = some c') : (capCells c lit).set off (.int .i64 n) = capCells c' lit := by
 unfold capPut at h
 split at h
 · injection h with h; subst h; rfl
 · injection h with h; subst h; rw [cc_setTail lit h1 h2 0, cc_split]; rfl
 · injection h with h; subst h; rw [cc_setTail lit h1 h2 1, cc_split]; rfl
 · injection h with h; subst h; rw [cc_setTail lit h1 h2 2, cc_split]; rfl
 · cases h
theorem cc_putLit {c : CapD} {lit : Value} (h1 : c.key.length = 16) (h2 : c.fp.length = 32) (l' : Value) : (capCells c lit).set 52 l' = capCells c l' := by
 rw [cc_setTail lit h1 h2 3, cc_split]; rfl
theorem capPut_len {c c' : CapD} {off : Nat} {n : Int} (h : capPut c n off = some c') : c'.key = c.key ∧ c'.fp = c.fp := by
 unfold capPut at h
 split at h <;> first | (injection h with h; subst h; exact ⟨rfl, rfl⟩) | cases h
theorem lset_app (vs : List Value) : ∀ (p r : List Value) (q : List Value) (_ : q.length = vs.length), lset (p ++ (q ++ r)) p.length vs = p ++ (vs ++ r) := by
 induction vs with
 | nil => intro p r q h; rw [List.eq_nil_of_length_eq_zero h]; rfl
 | cons v vs ih =>
  intro p r q h
  match q, h with
  | x :: q, h =>
   have := ih (p ++ [v]) r q (by simpa using h)
   rw [lset]
   simp only [List.append_assoc, List.singleton_append, List.length_append, List.length_singleton, List.cons_append] at this ⊢
   rw [set_mid _ _ _ _ _ rfl]
   exact this
theorem cc_putKey {c : CapD} {lit : Value} (h1 : c.key.length = 16) (k : List Int) (hk : k.length = 16) : lset (capCells c lit) 1 (u8s k) = capCells { c with key := k } lit :=
 lset_app (u8s k) [Value.int .i64 c.kind] _ (u8s c.key) (by rw [u8s_len, u8s_len]; omega)
theorem cc_putFp {c : CapD} {lit : Value} (h1 : c.key.length = 16) (h2 : c.fp.length = 32) (k : List Int) (hk : k.length = 32) : lset (capCells c lit) 17 (u8s k) = capCells { c with fp := k } lit := by
 have := lset_app (u8s k) (Value.int .i64 c.kind :: u8s c.key) [Value.int .i64 c.K, Value.int .i64 c.N, Value.int .i64 c.S, lit] (u8s c.fp) (by rw [u8s_len, u8s_len]; omega)
 rw [show (Value.int IntKind.i64 c.kind :: u8s c.key).length = 17 by simp [u8s_len, h1]] at this
 exact this

section
variable {w w' : World} {g : Nat} {c : CapD} {lit : Value}
theorem CapB.below {B : Nat} (h : CapB w g c lit) (hb : Below B w w') (hg : g < B) : CapB w' g c lit := ⟨h.blk.below hb hg, h.keyL, h.fpL, h.one⟩
theorem CapB.grown {row : Option Nat} (h : CapB w g c lit) (hb : w.grownBy w' row) (hg : some g ≠ row) : CapB w' g c lit := ⟨h.blk.grown hb hg, h.keyL, h.fpL, h.one⟩
theorem CapB.drew (h : CapB w g c lit) : CapB w.drew g c lit := ⟨h.blk.drew, h.keyL, h.fpL, h.one⟩
theorem CapB.lt (h : CapB w g c lit) : g < w.heap.size := h.blk.lt
theorem CapB.new_ (w : World) (h1 : c.key.length = 16) (h2 : c.fp.length = 32) (h3 : lit.oneCell' = true) : CapB (w.alloc (.cells (capCells c lit).toArray 28)) w.heap.size c lit :=
 ⟨Blk.new w _ _, h1, h2, h3⟩
theorem CapB.int_ (h : CapB w g c lit) {off : Nat} {n : Int} (hn : capInt c off = some n) : w.cell? ⟨g, off, none⟩ = some (.int .i64 n) := by rw [h.blk.cell]; exact cc_int h.keyL h.fpL hn
theorem CapB.lit_ (h : CapB w g c lit) : w.cell? ⟨g, 52, none⟩ = some lit := by rw [h.blk.cell]; exact cc_lit h.keyL h.fpL
theorem CapB.ones (h : CapB w g c lit) : ∀ u ∈ capCells c lit, u.oneCell' = true := fun u hu => by
 unfold capCells at hu
 simp only [List.mem_cons, List.mem_append, List.not_mem_nil, or_false] at hu
 rcases hu with rfl | hu | hu | rfl | rfl | rfl | rfl
 · rfl
 · exact u8s_one _ _ hu
 · exact u8s_one _ _ hu
 · rfl
 · rfl
 · rfl
 · exact h.one
theorem CapB.keyRange (h : CapB w g c lit) : w.rangeAt g 1 (u8s c.key) := blk_range h.blk 1 _ (cc_key h.keyL)
theorem CapB.fpRange (h : CapB w g c lit) : w.rangeAt g 17 (u8s c.fp) := blk_range h.blk 17 _ (cc_fp h.keyL h.fpL)
/-- The key, the print as rows of bytes. -/
theorem CapB.keyRow {B : Nat} (h : CapB w g c lit) (hg : g < B) : Bs w B (.slice (some ⟨g, 1, none⟩) 16 16) c.key := by
 unfold Bs
 rw [h.keyL]
 exact ⟨_, 16, rfl, Nat.le_refl _, by decide, by rw [u8s_len, h.keyL], fun _ => ⟨g, 1, rfl, hg, h.keyRange⟩⟩
theorem CapB.fpRow {B : Nat} (h : CapB w g c lit) (hg : g < B) : Bs w B (.slice (some ⟨g, 17, none⟩) 32 32) c.fp := by
 unfold Bs
 rw [h.fpL]
 exact ⟨_, 32, rfl, Nat.le_refl _, by decide, by rw [u8s_len, h.fpL], fun _ => ⟨g, 17, rfl, hg, h.fpRange⟩⟩
end

theorem size_cap : (Tryd.prog.info? 28).map (·.size) = some 53 := by kernel_rfl
theorem zero_cap : (Tryd.prog.info? 28).map (·.zero) = some (some (.agg (capCells CapD.none_ (.slice none 0 0)).toArray)) := by kernel_rfl

section
variable {ops : Array Oper} {rest : List Oper} {o : Oper} {a : Act} {w : World} {Q : Exit → Act → World → Prop} {g : Nat} {c : CapD} {lit : Value}
theorem wpList_cap_int (x : Operand) (ho : o.op = .load 3 x) (off : Nat) (hx : a.eval x = .pointer (some ⟨g, off, none⟩)) (hw : Region.wanted o (yielded ops a.tmps) = true) (hB : CapB w g c lit)
 (n : Int) (hn : capInt c off = some n) (h : wpList Tryd.prog ops Q rest (a.put o.dst (.int .i64 n)) w) : wpList Tryd.prog ops Q (o :: rest) a w :=
 wpList_go hw fun _ hK => wp_load_one _ x ho g off hx _ Tryd.underlying3 rfl _ (hB.int_ hn) (hK _ _ h)
theorem wpList_cap_lit (x : Operand) (ho : o.op = .load 26 x) (hx : a.eval x = .pointer (some ⟨g, 52, none⟩)) (hw : Region.wanted o (yielded ops a.tmps) = true) (hB : CapB w g c lit)
 (h : wpList Tryd.prog ops Q rest (a.put o.dst lit) w) : wpList Tryd.prog ops Q (o :: rest) a w :=
 wpList_go hw fun _ hK => wp_load_one _ x ho g 52 hx _ Tryd.underlying26 rfl _ hB.lit_ (hK _ _ h)
theorem wpList_cap_key (x : Operand) (ho : o.op = .load 23 x) (hx : a.eval x = .pointer (some ⟨g, 1, none⟩)) (hw : Region.wanted o (yielded ops a.tmps) = true) (hB : CapB w g c lit)
 (h : wpList Tryd.prog ops Q rest (a.put o.dst (.agg (u8s c.key).toArray)) w) : wpList Tryd.prog ops Q (o :: rest) a w :=
 wpList_go hw fun _ hK => wp_load_mid _ x ho g 1 hx _ _ hB.keyRange Tryd.underlying23 rfl (by rw [u8s_len, hB.keyL]; exact size_key) (hK _ _ h)
theorem wpList_cap_fp (x : Operand) (ho : o.op = .load 25 x) (hx : a.eval x = .pointer (some ⟨g, 17, none⟩)) (hw : Region.wanted o (yielded ops a.tmps) = true) (hB : CapB w g c lit)
 (h : wpList Tryd.prog ops Q rest (a.put o.dst (.agg (u8s c.fp).toArray)) w) : wpList Tryd.prog ops Q (o :: rest) a w :=
 wpList_go hw fun _ hK => wp_load_mid _ x ho g 17 hx _ _ hB.fpRange Tryd.underlying25 rfl (by rw [u8s_len, hB.fpL]; exact size_hash) (hK _ _ h)
theorem wpList_cap_all (x : Operand) (ho : o.op = .load 28 x) (hx : a.eval x = .pointer (some ⟨g, 0, none⟩)) (hw : Region.wanted o (yielded ops a.tmps) = true) (hB : CapB w g c lit)
 (h : wpList Tryd.prog ops Q rest (a.put o.dst (capV c lit)) w) : wpList Tryd.prog ops Q (o :: rest) a w :=
 wpList_go hw fun _ hK => wp_load_mid _ x ho g 0 hx _ _ (blk_range hB.blk 0 _ (fun j u hu => by rw [Nat.zero_add]; exact hu)) Tryd.underlying28 rfl (by rw [cc_len lit hB.keyL hB.fpL]; exact size_cap) (hK _ _ h)
theorem wpList_cap_new (x : Operand) (ho : o.op = .box 28 x) (hx : a.eval x = capV c lit) (hgd : o.guard = none) (h1 : c.key.length = 16) (h2 : c.fp.length = 32) (h3 : lit.oneCell' = true)
 (h : ∀ w', CapB w' w.heap.size c lit → Below w.heap.size w w' → w'.heap.size = w.heap.size + 1 → wpList Tryd.prog ops Q rest (a.put o.dst (.pointer (some ⟨w.heap.size, 0, none⟩))) w') : wpList Tryd.prog ops Q (o :: rest) a w :=
 Great.wpList_boxTo hgd _ x ho _ rfl _ rfl (capCells c lit).toArray (by rw [hx]; rfl) (h _ (CapB.new_ w h1 h2 h3) ((Below.refl _ _).alloc (Nat.le_refl _) _) (by simp))
theorem wpList_cap_zero (ho : o.op = .alloc 28) (hgd : o.guard = none)
 (h : ∀ w', CapB w' w.heap.size CapD.none_ (.slice none 0 0) → Below w.heap.size w w' → w'.heap.size = w.heap.size + 1 → wpList Tryd.prog ops Q rest (a.put o.dst (.pointer (some ⟨w.heap.size, 0, none⟩))) w') : wpList Tryd.prog ops Q (o :: rest) a w :=
 wpList_alloc_blk hgd _ ho _ zero_cap fun w' h1 h2 h3 => h w' ⟨h1, rfl, rfl, rfl⟩ h2 h3
theorem wpList_cap_put (x y : Operand) (ho : o.op = .store 3 x y) (off : Nat) (hx : a.eval x = .pointer (some ⟨g, off, none⟩)) (hgd : o.guard = none) (hB : CapB w g c lit) (n : Int) (hy : a.eval y = .int .i64 n) (c' : CapD) (hn : capPut c n off = some c')
 (h : ∀ w', CapB w' g c' lit → w.grownBy w' (some g) → w'.heap.size = w.heap.size → wpList Tryd.prog ops Q rest (a.put o.dst undef) w') : wpList Tryd.prog ops Q (o :: rest) a w := by
 have hlt : off < 53 := by
  unfold capPut at hn
  split at hn <;> first | omega | cases hn
 have hcell : w.cell? ⟨g, off, none⟩ = some ((capCells c lit)[off]'(by rw [cc_len lit hB.keyL hB.fpL]; exact hlt)) := by rw [hB.blk.cell]; exact List.getElem?_eq_getElem _
 have hg := grown_setCells (g := g) [Value.int .i64 n] w off
 refine wpList_plain hgd fun _ hK => wp_store_one _ x y ho g off hx _ hy (by rw [hcell]; rfl) (hB.blk.frozen _) rfl size_int (hK _ _ (h _ ⟨?_, by rw [(capPut_len hn).1]; exact hB.keyL, by rw [(capPut_len hn).2]; exact hB.fpL, hB.one⟩ hg.1 hg.2))
 rw [← cc_put hB.keyL hB.fpL hn]
 exact hB.blk.set_ _ _
theorem wpList_cap_putLit (x y : Operand) (ho : o.op = .store 26 x y) (hx : a.eval x = .pointer (some ⟨g, 52, none⟩)) (hgd : o.guard = none) (hB : CapB w g c lit) (l' : Value) (hy : a.eval y = l') (h1 : l'.oneCell' = true) (zs : List Int)
 (h : ∀ w', CapB w' g { c with lit := zs } l' → w.grownBy w' (some g) → w'.heap.size = w.heap.size → wpList Tryd.prog ops Q rest (a.put o.dst undef) w') : wpList Tryd.prog ops Q (o :: rest) a w := by
 have hg := grown_setCells (g := g) [l'] w 52
 refine wpList_plain hgd fun _ hK => wp_store_one _ x y ho g 52 hx _ hy (by rw [hB.lit_]; rfl) (hB.blk.frozen _) h1 size_row8 (hK _ _ (h _ ⟨?_, hB.keyL, hB.fpL, h1⟩ hg.1 hg.2))
 have := hB.blk.set_ 52 l'
 rw [cc_putLit hB.keyL hB.fpL] at this
 exact this
theorem wpList_cap_putKey (x y : Operand) (ho : o.op = .store 23 x y) (hx : a.eval x = .pointer (some ⟨g, 1, none⟩)) (hgd : o.guard = none) (hB : CapB w g c lit) (k : List Int) (hy : a.eval y = .agg (u8s k).toArray) (hk : k.length = 16)
 (h : ∀ w', CapB w' g { c with key := k } lit → w.grownBy w' (some g) → w'.heap.size = w.heap.size → wpList Tryd.prog ops Q rest (a.put o.dst undef) w') : wpList Tryd.prog ops Q (o :: rest) a w :=
 wpList_store_blk hgd _ x y ho g 1 (u8s k) hx hy _ _ hB.blk (by rw [cc_len lit hB.keyL hB.fpL, u8s_len]; omega) (by rw [u8s_len, hk]; exact size_key) (u8s_one _)
  fun w' h1 h2 h3 => h w' ⟨by rw [cc_putKey hB.keyL k hk] at h1; exact h1, hk, hB.fpL, hB.one⟩ h2 h3
theorem wpList_cap_putFp (x y : Operand) (ho : o.op = .store 25 x y) (hx : a.eval x = .pointer (some ⟨g, 17, none⟩)) (hgd : o.guard = none) (hB : CapB w g c lit) (k : List Int) (hy : a.eval y = .agg (u8s k).toArray) (hk : k.length = 32)
 (h : ∀ w', CapB w' g { c with fp := k } lit → w.grownBy w' (some g) → w'.heap.size = w.heap.size → wpList Tryd.prog ops Q rest (a.put o.dst undef) w') : wpList Tryd.prog ops Q (o :: rest) a w :=
 wpList_store_blk hgd _ x y ho g 17 (u8s k) hx hy _ _ hB.blk (by rw [cc_len lit hB.keyL hB.fpL, u8s_len]; omega) (by rw [u8s_len, hk]; exact size_hash) (u8s_one _)
  fun w' h1 h2 h3 => h w' ⟨by rw [cc_putFp hB.keyL hB.fpL k hk] at h1; exact h1, hB.keyL, hk, hB.one⟩ h2 h3
theorem wpList_cap_putAll (x y : Operand) (ho : o.op = .store 28 x y) (hx : a.eval x = .pointer (some ⟨g, 0, none⟩)) (hgd : o.guard = none) (hB : CapB w g c lit) (c' : CapD) (l' : Value) (hy : a.eval y = capV c' l')
 (h1 : c'.key.length = 16) (h2 : c'.fp.length = 32) (h3 : l'.oneCell' = true)
 (h : ∀ w', CapB w' g c' l' → w.grownBy w' (some g) → w'.heap.size = w.heap.size → wpList Tryd.prog ops Q rest (a.put o.dst undef) w') : wpList Tryd.prog ops Q (o :: rest) a w :=
 wpList_store_blk hgd _ x y ho g 0 (capCells c' l') hx hy _ _ hB.blk (by rw [cc_len lit hB.keyL hB.fpL, cc_len l' h1 h2]; omega) (by rw [cc_len l' h1 h2]; exact size_cap) (CapB.ones (CapB.new_ w h1 h2 h3))
  fun w' a1 a2 a3 => h w' ⟨by rw [lset_all _ _ (by rw [cc_len lit hB.keyL hB.fpL, cc_len l' h1 h2])] at a1; exact a1, h1, h2, h3⟩ a2 a3
theorem built_key : Tryd.prog.built 23 [] = some (u8s (zeros 16)).toArray := by kernel_rfl
theorem built_hash : Tryd.prog.built 25 [] = some (u8s (zeros 32)).toArray := by kernel_rfl
theorem built_cap : Tryd.prog.built 28 [] = some (capCells CapD.none_ (.slice none 0 0)).toArray := by kernel_rfl
theorem wpList_zero_key (ho : o.op = .build 23 #[]) (hw : Region.wanted o (yielded ops a.tmps) = true) (h : wpList Tryd.prog ops Q rest (a.put o.dst (.agg (u8s (zeros 16)).toArray)) w) : wpList Tryd.prog ops Q (o :: rest) a w :=
 wpList_go hw fun _ hK => wp_build _ #[] ho (by simp [built_key]) (by simp only [List.map_toArray, List.map_nil, built_key, Option.getD_some]; exact hK _ _ h)
theorem wpList_zero_hash (ho : o.op = .build 25 #[]) (hw : Region.wanted o (yielded ops a.tmps) = true) (h : wpList Tryd.prog ops Q rest (a.put o.dst (.agg (u8s (zeros 32)).toArray)) w) : wpList Tryd.prog ops Q (o :: rest) a w :=
 wpList_go hw fun _ hK => wp_build _ #[] ho (by simp [built_hash]) (by simp only [List.map_toArray, List.map_nil, built_hash, Option.getD_some]; exact hK _ _ h)
theorem wpList_none_cap (ho : o.op = .build 28 #[]) (hw : Region.wanted o (yielded ops a.tmps) = true) (h : wpList Tryd.prog ops Q rest (a.put o.dst (capV CapD.none_ (.slice none 0 0))) w) : wpList Tryd.prog ops Q (o :: rest) a w :=
 wpList_go hw fun _ hK => wp_build _ #[] ho (by simp [built_cap]) (by simp only [List.map_toArray, List.map_nil, built_cap, Option.getD_some]; exact hK _ _ h)
theorem wpList_eql_key (x y : Operand) (t' : TypeId) (ho : o.op = .binOp .eql 23 x y t') (xs ys : List Int) (hx : a.eval x = .agg (u8s xs).toArray) (hy : a.eval y = .agg (u8s ys).toArray)
 (hw : Region.wanted o (yielded ops a.tmps) = true) (hxl : xs.length = 16) (hyl : ys.length = 16) (b : Bool) (hb : decide (xs = ys) = b)
 (h : wpList Tryd.prog ops Q rest (a.put o.dst (.bool b)) w) : wpList Tryd.prog ops Q (o :: rest) a w :=
 wpList_go hw fun _ hK => wp_value _ (by
  unfold execOp
  have := run_eql_arr (P := Tryd.prog) w Tryd.underlying23 Tryd.underlying5 (by kernel_rfl) xs ys hxl hyl
  rw [hb] at this
  simp only [ho, hx, hy, u8s, Sem.run_bind, run_eqGuard_agg w _ _ _ _ _ _ (show Tryd.prog.eqGuardType Tryd.prog.depth 23 = false by kernel_rfl), this, Result.andThen_ok, Sem.run_pure]) (hK _ _ h)
theorem wpList_eql_hash (x y : Operand) (t' : TypeId) (ho : o.op = .binOp .eql 25 x y t') (xs ys : List Int) (hx : a.eval x = .agg (u8s xs).toArray) (hy : a.eval y = .agg (u8s ys).toArray)
 (hw : Region.wanted o (yielded ops a.tmps) = true) (hxl : xs.length = 32) (hyl : ys.length = 32) (b : Bool) (hb : decide (xs = ys) = b)
 (h : wpList Tryd.prog ops Q rest (a.put o.dst (.bool b)) w) : wpList Tryd.prog ops Q (o :: rest) a w :=
 wpList_go hw fun _ hK => wp_value _ (by
  unfold execOp
  have := run_eql_arr (P := Tryd.prog) w Tryd.underlying25 Tryd.underlying5 (by kernel_rfl) xs ys hxl hyl
  rw [hb] at this
  simp only [ho, hx, hy, u8s, Sem.run_bind, run_eqGuard_agg w _ _ _ _ _ _ (show Tryd.prog.eqGuardType Tryd.prog.depth 25 = false by kernel_rfl), this, Result.andThen_ok, Sem.run_pure]) (hK _ _ h)
end
end Go.Proofs.YthdjgebbjogmiaaDoor
