/- The order of names: byte by byte. No program in sight.
Arrays of bytes in blocks: read whole, written whole, cell by cell. No condition.
A new array in a block of its own, the world behind it a letter. No condition.
Helps for regions that draw their order.
Slices of bytes: make, reading, rows of the call's own. No condition. -/
import Derived.Test.YthdjgebbjogmiaaDoorBase
import Derived.Test.YthdjgebbjogmiaaDoorRows
import Derived.Laws.Rows
import Derived.Deep.MidRow
import Derived.Laws.MakeOwn
set_option linter.unusedVariables false
set_option linter.unusedSimpArgs false
namespace Go.Proofs.YthdjgebbjogmiaaDoor
/-- Does a stand ahead of b? -/
def ltL : List Int → List Int → Bool
 | [], [] => false
 | [], _ :: _ => true
 | _ :: _, [] => false
 | a :: xs, b :: bs => decide (a < b) || (decide (a = b) && ltL xs bs)
theorem ltL_irrefl : ∀ a : List Int, ltL a a = false
 | [] => rfl
 | a :: xs => by simp [ltL, ltL_irrefl xs]
theorem ltL_trans : ∀ {a b c : List Int}, ltL a b = true → ltL b c = true → ltL a c = true
 | [], [], _, h, _ => by simp [ltL] at h
 | [], _ :: _, [], _, h' => by simp [ltL] at h'
 | [], _ :: _, _ :: _, _, _ => rfl
 | _ :: _, [], _, h, _ => by simp [ltL] at h
 | _ :: _, _ :: _, [], _, h' => by simp [ltL] at h'
 | a :: xs, b :: bs, c :: cs, h, h' => by
  simp only [ltL, Bool.or_eq_true, decide_eq_true_eq, Bool.and_eq_true] at h h' ⊢
  rcases h with h | ⟨rfl, h⟩
  · rcases h' with h' | ⟨rfl, h'⟩
    · exact .inl (by omega)
    · exact .inl h
  · rcases h' with h' | ⟨rfl, h'⟩
    · exact .inl h'
    · exact .inr ⟨rfl, ltL_trans h h'⟩
theorem ltL_total : ∀ {a b : List Int}, a ≠ b → ltL a b = true ∨ ltL b a = true
 | [], [], h => absurd rfl h
 | [], _ :: _, _ => .inl rfl
 | _ :: _, [], _ => .inr rfl
 | a :: xs, b :: bs, h => by
  simp only [ltL, Bool.or_eq_true, decide_eq_true_eq, Bool.and_eq_true]
  rcases Int.lt_trichotomy a b with h1 | rfl | h1
  · exact .inl (.inl h1)
  · rcases ltL_total (a := xs) (b := bs) (fun e => h (by rw [e])) with h2 | h2
    · exact .inl (.inr ⟨rfl, h2⟩)
    · exact .inr (.inr ⟨rfl, h2⟩)
  · exact .inr (.inl h1)
theorem ltL_asymm {a b : List Int} (h : ltL a b = true) : ltL b a = false := by
 cases h' : ltL b a
 · rfl
 · have := ltL_trans h h'
   rw [ltL_irrefl] at this
   cases this
end Go.Proofs.YthdjgebbjogmiaaDoor

namespace Go.Proofs.YthdjgebbjogmiaaDoor
open Go Go.RowKit
set_option maxRecDepth 100000

/-- A list of bytes as cells. -/
def u8s (xs : List Int) : List Value := xs.map (.int .u8)
theorem u8s_len (xs : List Int) : (u8s xs).length = xs.length := by simp [u8s]
theorem u8s_one (xs : List Int) : ∀ u ∈ u8s xs, u.oneCell' = true := by
 intro u hu
 obtain ⟨x, _, rfl⟩ := List.mem_map.1 hu
 rfl
theorem u8s_set (xs : List Int) (i : Nat) (x : Int) : (u8s xs).set i (.int .u8 x) = u8s (xs.set i x) := by simp [u8s]

def Bytes (xs : List Int) : Prop := ∀ x ∈ xs, 0 ≤ x ∧ x < 256
theorem Bytes.get {xs : List Int} (h : Bytes xs) (i : Nat) (hi : i < xs.length) : 0 ≤ xs[i] ∧ xs[i] < 256 := h _ (List.getElem_mem hi)
theorem Bytes.set_ {xs : List Int} (h : Bytes xs) (i : Nat) {x : Int} (h0 : 0 ≤ x) (h1 : x < 256) : Bytes (xs.set i x) := fun y hy => by
 rcases List.mem_or_eq_of_mem_set hy with hy | rfl
 · exact h y hy
 · exact ⟨h0, h1⟩

theorem blk_u8 {w : World} {g : Nat} {t : TypeId} {xs : List Int} (h : Blk w g t (u8s xs)) (i : Nat) (hi : i < xs.length) : w.cell? ⟨g, i, none⟩ = some (.int .u8 xs[i]) := by
 unfold u8s at h
 rw [h.cell, List.getElem?_map, List.getElem?_eq_getElem hi]
 rfl
theorem blk_get {w : World} {g : Nat} {t : TypeId} {xs : List Int} (h : Blk w g t (u8s xs)) (i : Nat) (x : Int) (hi : i < xs.length) (hx : xs.getD i 0 = x) : w.cell? ⟨g, i, none⟩ = some (.int .u8 x) := by
 rw [blk_u8 h i hi, ← hx, List.getD_eq_getElem?_getD, List.getElem?_eq_getElem hi]
 rfl
theorem blk_set {w : World} {g : Nat} {t : TypeId} {xs : List Int} (h : Blk w g t (u8s xs)) (i : Nat) (x : Int) : Blk (w.setCell ⟨g, i, none⟩ (.int .u8 x)) g t (u8s (xs.set i x)) := by
 rw [← u8s_set]
 exact h.set_ i _

section
variable {P : Program}
theorem wpList_load_blk {ops : Array Oper} {rest : List Oper} {o : Oper} {a : Act} {w : World} {Q : Exit → Act → World → Prop} (hgd : o.guard = none) (ty : TypeId) (x : Operand) (ho : o.op = .load ty x)
 (g : Nat) (hx : a.eval x = .pointer (some ⟨g, 0, none⟩)) (t : TypeId) (cs : List Value) (hg : Blk w g t cs) (len : Nat) (e : TypeId)
 (hu : P.underlying ty = some (.array len e)) (hi : (P.info? ty).map (·.size) = some cs.length)
 (h : wpList P ops Q rest (a.put o.dst (.agg cs.toArray)) w) : wpList P ops Q (o :: rest) a w :=
 wpList_load_row hgd ty x ho g hx t cs.toArray (0, 0) _ hg hu rfl (by simpa using hi) h
end

/-- A list with the values vs laid in from place o on. -/
def lset : List Value → Nat → List Value → List Value
 | cs, _, [] => cs
 | cs, o, v :: r => lset (cs.set o v) (o + 1) r
theorem lset_get (vs : List Value) : ∀ (cs : List Value) (o j : Nat), o + vs.length ≤ cs.length → (lset cs o vs)[j]? = if o ≤ j ∧ j < o + vs.length then vs[j - o]? else cs[j]? := by
 induction vs with
 | nil => intro cs o j _; rw [lset, if_neg (by simp only [List.length_nil]; omega)]
 | cons v r ih =>
  intro cs o j h
  simp only [List.length_cons] at h
  rw [lset, ih _ _ _ (by simp; omega), List.getElem?_set]
  by_cases h1 : o = j
  · subst h1
    rw [if_neg (by omega), if_pos rfl, if_pos (by omega), if_pos ⟨by omega, by simp⟩]
    simp
  · rw [if_neg h1]
    by_cases h2 : o + 1 ≤ j ∧ j < o + 1 + r.length
    · rw [if_pos h2, if_pos ⟨by omega, by simp; omega⟩, show j - o = (j - (o + 1)) + 1 from by omega]
      simp
    · rw [if_neg h2, if_neg (by simp; omega)]
theorem lset_all (cs vs : List Value) (h : cs.length = vs.length) : lset cs 0 vs = vs := by
 refine List.ext_getElem? fun j => ?_
 rw [lset_get _ _ _ _ (by omega)]
 by_cases hj : j < vs.length
 · rw [if_pos ⟨by omega, by omega⟩]; rfl
 · rw [if_neg (by omega), List.getElem?_eq_none (by omega), List.getElem?_eq_none (by omega)]

theorem Blk.setCells {g : Nat} {t : TypeId} (vs : List Value) : ∀ {w : World} {cs : List Value} (o : Nat), Blk w g t cs → Blk (w.setCells g o vs) g t (lset cs o vs) := by
 induction vs with
 | nil => intro w cs o h; exact h
 | cons v r ih => intro w cs o h; exact ih (o + 1) (h.set_ o v)
theorem grown_setCells {g : Nat} (vs : List Value) : ∀ (w : World) (o : Nat), w.grownBy (w.setCells g o vs) (some g) ∧ (w.setCells g o vs).heap.size = w.heap.size := by
 induction vs with
 | nil => intro w o; exact ⟨World.grownBy.refl _ _, rfl⟩
 | cons v r ih =>
  intro w o
  obtain ⟨h1, h2⟩ := ih (w.setCell ⟨g, o, none⟩ v) (o + 1)
  refine ⟨⟨h1.os, h1.tape, h1.output, by rw [World.setCells, h2]; simp [World.setCell], fun i hi hne => ?_⟩, by rw [World.setCells, h2]; simp [World.setCell]⟩
  have := h1.block i (by simpa [World.setCell] using hi) hne
  rw [World.setCells, this]
  exact Below.heap_setCell w _ v i (fun e => hne (by rw [e]))

section
variable {P : Program}
theorem blk_there {w : World} {g : Nat} {t : TypeId} {cs : List Value} (h : Blk w g t cs) (o n : Nat) (hn : o + n ≤ cs.length) : w.there g o n := fun j hj => by
 refine ⟨?_, h.frozen _⟩
 rw [h.cell, List.getElem?_eq_getElem (by omega)]
 rfl
theorem wp_store_blk {op : Oper} {a : Act} {w : World} {K : Act → World → Prop} {Q : Exit → Act → World → Prop} (ty : TypeId) (x y : Operand) (ho : op.op = .store ty x y)
 (g o : Nat) (vs : List Value) (hx : a.eval x = .pointer (some ⟨g, o, none⟩)) (hy : a.eval y = .agg vs.toArray) (t : TypeId) (cs : List Value) (hg : Blk w g t cs) (hn : o + vs.length ≤ cs.length)
 (hi : (P.info? ty).map (·.size) = some vs.length) (h1 : ∀ u ∈ vs, u.oneCell' = true)
 (h : ∀ w', Blk w' g t (lset cs o vs) → w.grownBy w' (some g) → w'.heap.size = w.heap.size → K (a.put op.dst undef) w') : op.wp P a w K Q :=
 wp_store_mid ty x y ho g o vs.toArray hx hy (by simpa using blk_there hg o vs.length hn) (by simpa using hi) (all_oneCell_toArray h1)
  (h _ (Blk.setCells vs o hg) (grown_setCells vs w o).1 (grown_setCells vs w o).2)
/-- An array is written whole into a block. -/
theorem wpList_store_blk {ops : Array Oper} {rest : List Oper} {op : Oper} {a : Act} {w : World} {Q : Exit → Act → World → Prop} (hgd : op.guard = none) (ty : TypeId) (x y : Operand) (ho : op.op = .store ty x y)
 (g o : Nat) (vs : List Value) (hx : a.eval x = .pointer (some ⟨g, o, none⟩)) (hy : a.eval y = .agg vs.toArray) (t : TypeId) (cs : List Value) (hg : Blk w g t cs) (hn : o + vs.length ≤ cs.length)
 (hi : (P.info? ty).map (·.size) = some vs.length) (h1 : ∀ u ∈ vs, u.oneCell' = true)
 (h : ∀ w', Blk w' g t (lset cs o vs) → w.grownBy w' (some g) → w'.heap.size = w.heap.size → wpList P ops Q rest (a.put op.dst undef) w') : wpList P ops Q (op :: rest) a w :=
 wpList_plain hgd fun _ hK => wp_store_blk ty x y ho g o vs hx hy t cs hg hn hi h1 fun w' a1 a2 a3 => hK _ _ (h w' a1 a2 a3)
theorem blk_range {w : World} {g : Nat} {t : TypeId} {cs : List Value} (h : Blk w g t cs) (o : Nat) (vs : List Value) (hv : ∀ j u, vs[j]? = some u → cs[o + j]? = some u) : w.rangeAt g o vs := fun j v hj => by
 rw [h.cell]; exact hv j v hj
end
end Go.Proofs.YthdjgebbjogmiaaDoor

namespace Go.Proofs.YthdjgebbjogmiaaDoor
open Go Go.RowKit
set_option maxRecDepth 100000

section
variable {P : Program}
theorem run_alloc_zero (w : World) {t : TypeId} {i : TypeInfo} {z : Value} (hi : P.info? t = some i) (hz : i.zero = some z) :
 (Instr.alloc t true (.tuple #[])).run P w = .ok (.pointer (some ⟨w.heap.size, 0, none⟩)) (w.alloc (.cells z.cells t)) := by
 simp [Instr.alloc, zeroValue, typeInfo, hi, hz, newVar, newRow]

theorem wp_alloc_blk {o : Oper} {a : Act} {w : World} {K : Act → World → Prop} {Q : Exit → Act → World → Prop} (t : TypeId) (ho : o.op = .alloc t) (cs : List Value)
 (hz : (P.info? t).map (·.zero) = some (some (.agg cs.toArray)))
 (h : ∀ w', Blk w' w.heap.size t cs → Below w.heap.size w w' → w'.heap.size = w.heap.size + 1 → K (a.put o.dst (.pointer (some ⟨w.heap.size, 0, none⟩))) w') : o.wp P a w K Q := by
 obtain ⟨i, hi, hz⟩ := Option.map_eq_some_iff.1 hz
 have hr := run_alloc_zero w hi hz
 unfold Oper.wp execOp
 simp only [ho, Sem.run_bind, hr, Result.andThen_ok, Sem.run_pure]
 exact h _ (Blk.new w t cs) ((Below.refl _ _).alloc (Nat.le_refl _) _) (by simp)
theorem wpList_alloc_blk {ops : Array Oper} {rest : List Oper} {o : Oper} {a : Act} {w : World} {Q : Exit → Act → World → Prop} (hgd : o.guard = none) (t : TypeId) (ho : o.op = .alloc t) (cs : List Value)
 (hz : (P.info? t).map (·.zero) = some (some (.agg cs.toArray)))
 (h : ∀ w', Blk w' w.heap.size t cs → Below w.heap.size w w' → w'.heap.size = w.heap.size + 1 → wpList P ops Q rest (a.put o.dst (.pointer (some ⟨w.heap.size, 0, none⟩))) w') : wpList P ops Q (o :: rest) a w :=
 wpList_plain hgd fun _ hK => wp_alloc_blk t ho cs hz fun w' h1 h2 h3 => hK _ _ (h w' h1 h2 h3)
end
theorem zero256 : (Tryd.prog.info? 88).map (·.zero) = some (some (.agg (u8s (List.replicate 256 0)).toArray)) := by kernel_rfl
theorem zero16 : (Tryd.prog.info? 22).map (·.zero) = some (some (.agg (u8s (List.replicate 16 0)).toArray)) := by kernel_rfl
theorem zero176 : (Tryd.prog.info? 90).map (·.zero) = some (some (.agg (u8s (List.replicate 176 0)).toArray)) := by kernel_rfl
theorem size256 : (Tryd.prog.info? 88).map (·.size) = some 256 := by kernel_rfl
theorem size16 : (Tryd.prog.info? 22).map (·.size) = some 16 := by kernel_rfl
theorem size176 : (Tryd.prog.info? 90).map (·.size) = some 176 := by kernel_rfl
end Go.Proofs.YthdjgebbjogmiaaDoor

namespace Go.Proofs.YthdjgebbjogmiaaDoor
open Go Go.RowKit
set_option maxRecDepth 100000

theorem grown_drew {w w' : World} {row : Option Nat} (h : w.grownBy w' row) : w.grownBy w'.drew row := ⟨h.os, h.tape, h.output, h.size, h.block⟩
theorem grown_of_below {w w' : World} {B : Nat} (hb : Below B w w') (h : w.heap.size ≤ B) (row : Option Nat := none) : w.grownBy w' row :=
 ⟨hb.os, hb.tape, hb.output, hb.size, fun k hk _ => hb.block k (by omega)⟩
section
variable {P : Program}
theorem wp_alloc_blkD {o : Oper} {a : Act} {w : World} {K : Act → World → Prop} {Q : Exit → Act → World → Prop} (t d : Nat) (ho : o.op = .alloc t) (hd : o.dst = some d) (cs : List Value)
 (hz : (P.info? t).map (·.zero) = some (some (.agg cs.toArray)))
 (h : ∀ w', Blk w' w.heap.size t cs → Below w.heap.size w w' → w'.heap.size = w.heap.size + 1 → K (a.put (some d) (.pointer (some ⟨w.heap.size, 0, none⟩))) w') : o.wp P a w K Q :=
 wp_alloc_blk t ho cs hz fun w' h1 h2 h3 => by rw [hd]; exact h w' h1 h2 h3
theorem wp_store_blkD {op : Oper} {a : Act} {w : World} {K : Act → World → Prop} {Q : Exit → Act → World → Prop} (ty : TypeId) (x y : Operand) (ho : op.op = .store ty x y) (hd : op.dst = none)
 (g o : Nat) (vs : List Value) (hx : a.eval x = .pointer (some ⟨g, o, none⟩)) (hy : a.eval y = .agg vs.toArray) (t : TypeId) (cs : List Value) (hg : Blk w g t cs) (hn : o + vs.length ≤ cs.length)
 (hi : (P.info? ty).map (·.size) = some vs.length) (h1 : ∀ u ∈ vs, u.oneCell' = true)
 (h : ∀ w', Blk w' g t (lset cs o vs) → w.grownBy w' (some g) → w'.heap.size = w.heap.size → K a w') : op.wp P a w K Q :=
 wp_store_blk ty x y ho g o vs hx hy t cs hg hn hi h1 fun w' a1 a2 a3 => by rw [hd]; exact h w' a1 a2 a3
end

end Go.Proofs.YthdjgebbjogmiaaDoor

namespace Go.Proofs.YthdjgebbjogmiaaDoor
open Go Go.RowKit
set_option maxRecDepth 100000

theorem el_u8 : ElemOf Tryd.prog 26 5 1 1 := elem_of Tryd.underlying26 (z := .int .u8 0) (by kernel_rfl) rfl (by decide) (by decide)
theorem made_u8 (n : Nat) : madeCells #[Value.int .u8 0] n = (u8s (List.replicate n 0)).toArray := by
 apply Array.ext
 · simp [madeCells, u8s]
 · intro i h1 h2
   simp [madeCells, u8s, Nat.mod_one]
theorem run_make_bytes (w : World) (kl kc : IntKind) (n c : Nat) (hnc : n ≤ c) (hc : c ≤ 281474976710656) :
 (Instr.makeSlice 26 (.int kl (n : Int)) (.int kc (c : Int))).run Tryd.prog w = .ok (.slice (some ⟨w.heap.size, 0, none⟩) n c) (w.alloc (.cells (u8s (List.replicate c 0)).toArray 5)) := by
 obtain ⟨i, z, ht, hi, hz, hsize, hby, hzs, _, _⟩ := el_u8
 have h := run_make (P := Tryd.prog) w _ _ i z ht hi hz kl kc n c (by omega) (by omega) (by rw [hby]; omega) (by omega)
 rw [h, hsize]
 have hz' : z = .int .u8 0 := by
  have : (Tryd.prog.info? 5).map (·.zero) = some (some (.int .u8 0)) := by kernel_rfl
  rw [hi] at this
  simp [hz] at this
  exact this
 subst hz'
 have := made_u8 c
 simp only [Int.toNat_natCast, Nat.mul_one]
 rw [show (Value.int IntKind.u8 0).cells = #[Value.int .u8 0] from rfl, this]
theorem wpList_make_bytes {ops : Array Oper} {rest : List Oper} {o : Oper} {a : Act} {w : World} {Q : Exit → Act → World → Prop} (hgd : o.guard = none) (x y : Operand) (ho : o.op = .makeSlice 26 x y)
 (kl kc : IntKind) (n c : Nat) (hx : a.eval x = .int kl (n : Int)) (hy : a.eval y = .int kc (c : Int)) (hnc : n ≤ c) (hc : c ≤ 281474976710656)
 (h : ∀ w', Blk w' w.heap.size 5 (u8s (List.replicate c 0)) → Below w.heap.size w w' → w'.heap.size = w.heap.size + 1 → wpList Tryd.prog ops Q rest (a.put o.dst (.slice (some ⟨w.heap.size, 0, none⟩) n c)) w') : wpList Tryd.prog ops Q (o :: rest) a w :=
 wpList_plain hgd fun _ hK => by
  have hr := run_make_bytes w kl kc n c hnc hc
  unfold Oper.wp execOp
  simp only [ho, hx, hy, Sem.run_bind, hr, Result.andThen_ok, Sem.run_pure]
  exact hK _ _ (h _ (Blk.new w _ _) ((Below.refl _ _).alloc (Nat.le_refl _) _) (by simp))

/-- A slice of bytes. -/
def Bs (w : World) (B : Nat) (v : Value) (xs : List Int) : Prop := Rd w B 1 v xs.length (u8s xs)
/-- A row of bytes of the call's own. -/
def Own8 (w : World) (base : Nat) (v : Value) (xs : List Int) : Prop := w.ownsRow base 5 1 v xs.length (u8s xs)
section
variable {w w' : World} {B B' base : Nat} {v : Value} {xs : List Int}
theorem Bs.open_ (h : Bs w B v xs) :
 ∃ (A : Option Addr) (c : Nat), v = .slice A xs.length c ∧ xs.length ≤ c ∧ c ≤ maxLen ∧
 (0 < xs.length → ∃ b o, A = some ⟨b, o, none⟩ ∧ b < B ∧ ∀ j (x : Int), j < xs.length → xs.getD j 0 = x → w.cell? ⟨b, o + j, none⟩ = some (.int .u8 x)) := by
 obtain ⟨A, c, rfl, h1, h2, _, h3⟩ := h
 refine ⟨A, c, rfl, h1, h2, fun hp => ?_⟩
 obtain ⟨b, o, rfl, hb, hc⟩ := h3 hp
 refine ⟨b, o, rfl, hb, fun j x hj hx => hc j _ ?_⟩
 unfold u8s
 rw [List.getElem?_map, List.getElem?_eq_getElem hj, ← hx, List.getD_eq_getElem?_getD, List.getElem?_eq_getElem hj]
 rfl
theorem Bs.below (h : Bs w B v xs) (hb : Below B' w w') (hB : B ≤ B') : Bs w' B v xs := Rd.belowM h hb hB
theorem Bs.more (h : Bs w B v xs) (hB : B ≤ B') : Bs w B' v xs := Rd.more h hB
theorem Bs.nil_ (w : World) (B : Nat) : Bs w B (.slice none 0 0) [] := Rd.nil_ w B 1
theorem Own8.reads (h : Own8 w base v xs) : Bs w w.heap.size v xs := Rd.of_own h
theorem Own8.of_blk {g : Nat} (h : Blk w g 5 (u8s xs)) (hb : base ≤ g) (hm : xs.length ≤ maxLen) : Own8 w base (.slice (some ⟨g, 0, none⟩) xs.length xs.length) xs :=
 ⟨by simp [u8s], .inr ⟨g, xs.length, (u8s xs).toArray, rfl, hb, h, Nat.le_refl _, hm, by simp [u8s], by rw [Nat.mul_one, List.take_of_length_le (by simp [u8s])]⟩⟩
theorem Own8.keptB (h : Own8 w base v xs) (hb : Below w.heap.size w w') : Own8 w' base v xs := own_keptB h hb
theorem Own8.more (h : Own8 w base v xs) (hb : B ≤ base) : Own8 w B v xs := own_more h hb
end
end Go.Proofs.YthdjgebbjogmiaaDoor
