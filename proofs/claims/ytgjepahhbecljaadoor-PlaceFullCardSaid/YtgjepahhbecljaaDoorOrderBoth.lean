/- A slice cut out of a slice, and an append onto one that is full; strings compared; rows of hashes. No condition.
The document's order of servers. Condition: none but the sizes of numbers.
aumbrykeep.Same of ints. No condition. -/
import Derived.Test.YtgjepahhbecljaaDoorOrder
import Derived.Test.YtgjepahhbecljaaDoorStr
import Derived.ArgAppend
import Derived.Lib.Bytes
import Derived.Test.YtgjepahhbecljaaDoorPutBoth
import Derived.Test.YtgjepahhbecljaaDoorShaRef
import Derived.Deep.CutBlock
import Derived.Deep.DeepCutAuto
import Derived.BigQuiet
namespace Go.Proofs.YtgjepahhbecljaaDoor
open Go Go.RowKit
set_option linter.unusedVariables false
set_option linter.unusedSimpArgs false
set_option maxRecDepth 100000

theorem Rd.cut {w : World} {B size n c : Nat} {A : Option Addr} {xs : List Value} (h : Rd w B size (.slice A n c) n xs) (lo hi m : Nat) (h1 : lo ≤ hi) (h2 : hi ≤ n) (h3 : hi ≤ m) (h4 : m ≤ c) :
    Rd w B size (sliced A lo hi m size) (hi - lo) ((xs.drop (lo * size)).take ((hi - lo) * size)) := by
  obtain ⟨A', c', hv, e1, e2, e4, e3⟩ := h
  injection hv with g1 g2 g3
  subst g1 g3
  have hsz : hi * size ≤ n * size := Nat.mul_le_mul_right _ h2
  have hsub : (hi - lo) * size = hi * size - lo * size := Nat.sub_mul ..
  have hlo : lo * size ≤ hi * size := Nat.mul_le_mul_right _ h1
  refine ⟨if m = lo then A else A.map (·.add (lo * size)), m - lo, rfl, by omega, by omega, by rw [List.length_take, List.length_drop]; omega, fun hp => ?_⟩
  obtain ⟨b, o, rfl, hb, hc⟩ := e3 (by omega)
  refine ⟨b, o + lo * size, ?_, hb, fun j u hu => ?_⟩
  · rw [if_neg (by omega)]
    simp only [Option.map_some]
    congr 1
    unfold Addr.add; split
    · rename_i h; rw [h]; rfl
    · rfl
  · have := hc (lo * size + j) u (by
      rw [List.getElem?_take] at hu
      split at hu
      · rw [List.getElem?_drop] at hu; exact hu
      · cases hu)
    rw [Nat.add_assoc]; exact this
theorem Rd.shape {w : World} {B size n : Nat} {v : Value} {xs : List Value} (h : Rd w B size v n xs) : ∃ A c, v = .slice A n c ∧ n ≤ c ∧ c ≤ maxLen := by
  obtain ⟨A, c, e, h1, h2, _⟩ := h
  exact ⟨A, c, e, h1, h2⟩
section
variable {o : Oper} {a : Act} {w : World} {K : Act → World → Prop} {Q : Exit → Act → World → Prop}
/-- 's[:k:k]' and 's[k:]'. -/
theorem exec_slice_full (t e : TypeId) (size : Nat) (ht : Tryd.prog.underlying t = some (.slice e)) (hs : (Tryd.prog.info? e).map (·.size) = some size) (x y z : Operand) (ho : o.op = .slice t x none (some y) (some z)) (A : Option Addr) (n c k : Nat) (hx : a.eval x = .slice A n c) (hy : a.eval y = .int .i64 (k : Int)) (hz : a.eval z = .int .i64 (k : Int)) (hk : k ≤ c) :
    (execOp a.eval o).run Tryd.prog w = .ok (.value (sliced A 0 k k size)) w := by
  unfold execOp
  rcases hi : Tryd.prog.info? e with _ | i
  · rw [hi] at hs; cases hs
  rw [hi] at hs
  injection hs with hs
  have h0 : (0 : Int) ≤ (k : Int) ∧ (k : Int) ≤ (c : Int) := by omega
  simp only [ho, hx, hy, hz, Option.map_some, Option.map_none, Sem.run_bind, Instr.sliceAt, run_underlying ht, Result.andThen_ok]
  simp [Instr.slice, run_underlying ht, Instr.sliceBounds, Instr.sliceBound, asIntOf, h0, sizeOf, typeInfo, hi, sliced, hk, show i.size = size from hs]
  try (intro hh; omega)
theorem exec_slice_from (t e : TypeId) (size : Nat) (ht : Tryd.prog.underlying t = some (.slice e)) (hs : (Tryd.prog.info? e).map (·.size) = some size) (x y : Operand) (ho : o.op = .slice t x (some y) none none) (A : Option Addr) (n c k : Nat) (hx : a.eval x = .slice A n c) (hy : a.eval y = .int .i64 (k : Int)) (hk : k ≤ n) :
    (execOp a.eval o).run Tryd.prog w = .ok (.value (sliced A k n c size)) w := by
  unfold execOp
  rcases hi : Tryd.prog.info? e with _ | i
  · rw [hi] at hs; cases hs
  rw [hi] at hs
  injection hs with hs
  have h0 : (0 : Int) ≤ (k : Int) ∧ (k : Int) ≤ (n : Int) := by omega
  simp only [ho, hx, hy, Option.map_some, Option.map_none, Sem.run_bind, Instr.sliceAt, run_underlying ht, Result.andThen_ok]
  simp [Instr.slice, run_underlying ht, Instr.sliceBounds, Instr.sliceBound, asIntOf, h0, sizeOf, typeInfo, hi, sliced, hk, show i.size = size from hs]
/-- Onto a slice that is full: always a new row. -/
theorem wp_append_fullD' (d : Nat) (hd : o.dst = some d) (s x : Operand) (t : TypeId) (hop : o.op = .call { callee := .builtin .append, args := #[s, x], argTypes := #[t, t] })
    (e : TypeId) (size bytes : Nat) (hE : ElemOf Tryd.prog t e size bytes) (n : Nat) (A : Option Addr) (olds : List Value) (B : Nat) (hs : a.eval s = .slice A n n) (hr : Rd w B size (.slice A n n) n olds)
    (B' : Nat) (vx : Value) (m : Nat) (news : List Value) (hx : a.eval x = vx) (hr' : Rd w B' size vx m news) (h1 : ∀ u ∈ news, u.oneCell' = true) (hm : 0 < m) (hb : (n + m) * bytes ≤ 140737488355328)
    (hK : ∀ v' w', w'.ownsRow w.heap.size e size v' (n + m) (olds ++ news) → Below w.heap.size w w' → K (a.put (some d) v') w') : o.wp Tryd.prog a w K Q := by
  obtain ⟨i, z, ht, hi, hz, hsize, hby, hzs, hsz, hb0⟩ := hE
  obtain ⟨Ax, cx, rfl, h3, h4, h5, h6⟩ := hr'
  obtain ⟨bx, ox, rfl, hbx, hcx⟩ := h6 hm
  have h63 : n + m ≤ maxLen := by
    have : (n + m) * 1 ≤ (n + m) * bytes := Nat.mul_le_mul_left _ hb0
    rw [maxLen_eq]; omega
  have hcx' : ∀ j u, news[j]? = some u → w.cell? ((⟨bx, ox, none⟩ : Addr).add j) = some u := fun j u hu => by rw [Addr.add_lit]; exact hcx j u hu
  have hfin : ∀ v' w', w'.ownsRow w.heap.size e size v' (n + m) (olds ++ news) → w.grownBy w' none → K (a.put o.dst v') w' := fun v' w' q1 q2 => by
    rw [hd]
    exact hK v' w' q1 ⟨q2.os, q2.tape, q2.output, q2.size, fun k hk => q2.block k hk (by simp)⟩
  rcases Nat.eq_zero_or_pos n with h0 | h0
  · subst h0
    have hol : olds = [] := List.eq_nil_of_length_eq_zero (by have := hr.len; omega)
    subst hol
    rcases A with _ | ad
    · obtain ⟨v', w', hrun, r1, r2, _⟩ := run_append_own (P := Tryd.prog) w w.heap.size t o.type e i z size bytes ht hi hz hsize hby hzs hsz (.slice none 0 0) 0 [] (World.ownsRow_nil w _ e size) ⟨bx, ox, none⟩ m cx news h5 hcx' h1 h63 hb (Nat.le_refl _)
      unfold Oper.wp
      simp [execOp, hop, resolve, invoke, builtin, hs, hx, hrun, Result.andThen]
      exact hfin _ _ r1 r2
    · obtain ⟨v', w', hrun, r1, r2⟩ := run_append_arg_grows (P := Tryd.prog) w t o.type e i z size bytes ht hi hz hsize hby hzs hsz ad 0 0 [] (by simp) (by intro j u hu; simp at hu) ⟨bx, ox, none⟩ m cx news h5 hcx' (by omega) h63 hb
      unfold Oper.wp
      simp [execOp, hop, resolve, invoke, builtin, hs, hx, hrun, Result.andThen]
      exact hfin _ _ r1 r2
  · obtain ⟨A', c', hv, e1, e2, e4, e3⟩ := hr
    injection hv with g1 g2 g3
    subst g1 g3
    obtain ⟨b, off, rfl, hbb, hcc⟩ := e3 h0
    obtain ⟨v', w', hrun, r1, r2⟩ := run_append_arg_grows (P := Tryd.prog) w t o.type e i z size bytes ht hi hz hsize hby hzs hsz ⟨b, off, none⟩ n n olds e4 (fun j u hu => by rw [Addr.add_lit]; exact hcc j u hu) ⟨bx, ox, none⟩ m cx news h5 hcx' (by omega) h63 hb
    unfold Oper.wp
    simp [execOp, hop, resolve, invoke, builtin, hs, hx, hrun, Result.andThen]
    exact hfin _ _ r1 r2
end
/-- Strings compared as rows of bytes. -/
theorem less_toU8 : ∀ (xs ys : List Int), (∀ x ∈ xs, 0 ≤ x ∧ x < 256) → (∀ y ∈ ys, 0 ≤ y ∧ y < 256) → Op.bytesLess (toU8 xs) (toU8 ys) = decide (Heap.cmpL xs ys = -1)
  | [], [], _, _ => rfl
  | [], _ :: _, _, _ => rfl
  | _ :: _, [], _, _ => rfl
  | x :: xs, y :: ys, hx, hy => by
    have h1 := hx x List.mem_cons_self
    have h2 := hy y List.mem_cons_self
    have e1 : x.toNat.toUInt8.toNat = x.toNat := by simp [UInt8.toNat_ofNat]; omega
    have e2 : y.toNat.toUInt8.toNat = y.toNat := by simp [UInt8.toNat_ofNat]; omega
    have l1 : x.toNat.toUInt8 < y.toNat.toUInt8 ↔ x < y := by rw [UInt8.lt_iff_toNat_lt, e1, e2]; omega
    have l2 : x.toNat.toUInt8 = y.toNat.toUInt8 ↔ x = y := by rw [← UInt8.toNat_inj, e1, e2]; omega
    have ih := less_toU8 xs ys (fun z hz => hx z (List.mem_cons_of_mem _ hz)) (fun z hz => hy z (List.mem_cons_of_mem _ hz))
    show (decide (x.toNat.toUInt8 < y.toNat.toUInt8) || (x.toNat.toUInt8 == y.toNat.toUInt8 && Op.bytesLess (toU8 xs) (toU8 ys))) = _
    rw [ih]
    show _ = decide ((if x < y then -1 else if y < x then 1 else Heap.cmpL xs ys) = -1)
    by_cases a : x < y
    · simp [l1, a]
    · by_cases b : y < x
      · have hne : x ≠ y := by omega
        simp [l1, a, b, l2, hne]
      · have he : x = y := by omega
        subst he
        simp [l1, a]
theorem str_toList (xs : List Int) : (strOfNums xs).toList = toU8 xs := by
  rw [Lib.strOfNums_toList]
  rfl
theorem str_gtr (xs ys : List Int) (hx : Bytes xs) (hy : Bytes ys) : (!(Op.bytesLess (strOfNums xs).toList (strOfNums ys).toList || ((strOfNums xs).toList == (strOfNums ys).toList))) = decide (Heap.cmpL xs ys = 1) := by
  have he : ((strOfNums xs).toList == (strOfNums ys).toList) = decide (Heap.cmpL xs ys = 0) := by
    by_cases h : xs = ys
    · subst h
      rw [Heap.cmpL_self]
      simp
    · have h1 : Heap.cmpL xs ys ≠ 0 := fun e => h (Heap.cmpL_zero _ _ e)
      rw [decide_eq_false h1]
      simp only [beq_eq_false_iff_ne, ne_eq]
      intro e
      refine h ((strOf_inj hx hy).1 ?_)
      have : (strOfNums xs).data.toList = (strOfNums ys).data.toList := by
        rw [str_toList, str_toList] at e
        rw [strOfNums_data, strOfNums_data]
        exact e
      exact ByteArray.ext (Array.toList_inj.1 this)
  rw [he, str_toList, str_toList, less_toU8 xs ys hx hy]
  rcases Heap.cmpL_range xs ys with h | h | h <;> rw [h] <;> rfl
theorem exec_gtr_str {o : Oper} {a : Act} {w : World} (x y : Operand) (t : TypeId) (ho : o.op = .binOp .gtr 9 x y t) (xs ys : List Int) (hx : a.eval x = .string (strOfNums xs)) (hy : a.eval y = .string (strOfNums ys)) (hbx : Bytes xs) (hby : Bytes ys) :
    (execOp a.eval o).run Tryd.prog w = .ok (.value (.bool (decide (Heap.cmpL xs ys = 1)))) w := by
  unfold execOp
  have hr : (Op.stringOp .gtr (strOfNums xs) (strOfNums ys)).run Tryd.prog w = .ok (.bool (decide (Heap.cmpL xs ys = 1))) w := by
    show (Pure.pure (Value.bool (!(Op.bytesLess (strOfNums xs).toList (strOfNums ys).toList || ((strOfNums xs).toList == (strOfNums ys).toList)))) : Sem Value).run Tryd.prog w = _
    rw [str_gtr xs ys hbx hby]
    rfl
  simp only [ho, hx, hy, Sem.run_bind]
  have hg : (eqGuard .gtr 9 x y (.string (strOfNums xs)) (.string (strOfNums ys))).run Tryd.prog w = .ok () w := rfl
  simp only [hg, Result.andThen_ok]
  show ((Op.stringOp .gtr (strOfNums xs) (strOfNums ys)).run Tryd.prog w).andThen _ = _
  rw [hr]
  rfl
/-- The hashes' cells. -/
def hsC (l : List Heap.T) : List Value := l.flatMap fun x => u8s x.2
theorem hsC_len : ∀ {l : List Heap.T}, WfT l → (hsC l).length = l.length * 32
  | [], _ => rfl
  | x :: l, h => by
    have ih := hsC_len (l := l) fun y hy => h y (List.mem_cons_of_mem _ hy)
    show (u8s x.2 ++ hsC l).length = _
    rw [List.length_append, u8s_len, (h x List.mem_cons_self).1, ih, List.length_cons]
    omega
theorem hsC_app (l m : List Heap.T) : hsC (l ++ m) = hsC l ++ hsC m := by simp [hsC]
theorem hsC_one (l : List Heap.T) : ∀ u ∈ hsC l, u.oneCell' = true := fun u hu => by
  obtain ⟨x, _, hx⟩ := List.mem_flatMap.1 hu
  exact u8s_one _ _ hx
theorem WfT.take {l : List Heap.T} (h : WfT l) (n : Nat) : WfT (l.take n) := fun y hy => h y (List.mem_of_mem_take hy)
theorem WfT.drop {l : List Heap.T} (h : WfT l) (n : Nat) : WfT (l.drop n) := fun y hy => h y (List.mem_of_mem_drop hy)
theorem hsC_cut {l : List Heap.T} (h : WfT l) (n : Nat) (hn : n ≤ l.length) : (hsC l).take (n * 32) = hsC (l.take n) ∧ (hsC l).drop (n * 32) = hsC (l.drop n) := by
  have e : hsC l = hsC (l.take n) ++ hsC (l.drop n) := by rw [← hsC_app, List.take_append_drop]
  have hl : (hsC (l.take n)).length = n * 32 := by rw [hsC_len (h.take n), List.length_take, Nat.min_eq_left hn]
  rw [e]
  exact ⟨by rw [← hl]; exact List.take_left, by rw [← hl]; exact List.drop_left⟩
theorem hsC_at {l : List Heap.T} (h : WfT l) (i : Nat) (hi : i < l.length) (j : Nat) (u : Value) (hu : (u8s (l.getD i Heap.t0).2)[j]? = some u) : (hsC l)[i * 32 + j]? = some u := by
  have h1 := (hsC_cut h i (by omega)).2
  have h2 : l.drop i = l[i] :: l.drop (i + 1) := (List.getElem_cons_drop hi).symm
  rw [Heap.getD_in l hi] at hu
  rw [← List.getElem?_drop, h1, h2]
  show (u8s l[i].2 ++ hsC (l.drop (i + 1)))[j]? = some u
  rw [List.getElem?_append_left (List.getElem?_eq_some_iff.1 hu).1]
  exact hu
end Go.Proofs.YtgjepahhbecljaaDoor

namespace Go.Proofs.YtgjepahhbecljaaDoor
open Go Go.RowKit
set_option linter.unusedVariables false
set_option linter.unusedSimpArgs false
set_option maxRecDepth 100000
set_option maxHeartbeats 8000000
theorem el_hash87 : ElemOf Tryd.prog 87 25 32 32 := elem_of Tryd.underlying87 (z := .agg (u8s (List.replicate 32 0)).toArray) (by kernel_rfl) rfl (by decide) (by decide)
theorem own_of_blk {w : World} {g base size n : Nat} {e : TypeId} {cs : List Value} (h : Blk w g e cs) (hb : base ≤ g) (hl : cs.length = n * size) (hm : n ≤ maxLen) : w.ownsRow base e size (.slice (some ⟨g, 0, none⟩) n n) n cs :=
  ⟨hl, .inr ⟨g, n, cs.toArray, rfl, hb, h, Nat.le_refl _, hm, by rw [List.size_toArray, hl], by show cs.take (n * size) = cs; rw [← hl, List.take_length]⟩⟩
section
variable {P : Program} {o : Oper} {a : Act} {w : World} {K : Act → World → Prop} {Q : Exit → Act → World → Prop}
theorem wp_alloc_blkG {P : Program} {o : Oper} {a : Act} {w : World} {K : Act → World → Prop} {Q : Exit → Act → World → Prop} (t d : Nat) (ho : o.op = .alloc t) (hd : o.dst = some d) (cs : List Value)
    (hz : (P.info? t).map (·.zero) = some (some (.agg cs.toArray)))
    (h : ∀ (g : Nat) (w' : World), w.heap.size ≤ g → Blk w' g t cs → Below w.heap.size w w' → K (a.put (some d) (.pointer (some ⟨g, 0, none⟩))) w') : o.wp P a w K Q :=
  wp_alloc_blkD t d ho hd cs hz fun w' h1 h2 _ => h _ w' (Nat.le_refl _) h1 h2
theorem quiet_skip {ops : Array Oper} {C : World → Prop} {Q : Act → Prop} {rest : List Oper} (d : Nat) (hd : o.dst = some d) (hw : Region.wanted o (yielded ops a.tmps) = false) (h : wpQuiet P ops C Q rest (a.put (some d) undef)) : wpQuiet P ops C Q (o :: rest) a := by
  unfold wpQuiet
  rw [if_neg (by rw [hw]; decide), hd]
  exact h
theorem exec_gtr_int (x y : Operand) (t' : TypeId) (ho : o.op = .binOp .gtr 3 x y t') (p q : Int) (hx : a.eval x = .int .i64 p) (hy : a.eval y = .int .i64 q) : (execOp a.eval o).run Tryd.prog w = .ok (.value (.bool (decide (q < p)))) w := by
  unfold execOp
  simp only [ho, hx, hy]
  go_simp
theorem exec_pick_f (c x y : Operand) (ho : o.op = .pick c x y) (hc : a.eval c = .bool false) (v : Value) (hy : a.eval y = v) : (execOp a.eval o).run Tryd.prog w = .ok (.value v) w := by
  unfold execOp
  simp only [ho, hc, hy, asBool, Sem.run_bind, Sem.run_pure, Result.andThen_ok]
  rfl
theorem exec_pick_t' (c x y : Operand) (ho : o.op = .pick c x y) (hc : a.eval c = .bool true) (v : Value) (hx : a.eval x = v) : (execOp a.eval o).run Tryd.prog w = .ok (.value v) w := by
  unfold execOp
  simp only [ho, hc, hx, asBool, Sem.run_bind, Sem.run_pure, Result.andThen_ok]
  rfl
theorem exec_to_string (x : Operand) (ho : o.op = .convert 26 9 x) (B : Nat) (v : Value) (xs : List Int) (hx : a.eval x = v) (hv : Bs w B v xs) : (execOp a.eval o).run Tryd.prog w = .ok (.value (.string (strOfNums xs))) w := by
  unfold execOp
  simp only [ho, hx, Sem.run_bind, run_to_string w B v xs hv, Result.andThen_ok, Sem.run_pure]
theorem exec_index_hrow (x y : Operand) (ho : o.op = .indexAddr 87 x y) (A : Option Addr) (n c b off j : Nat) (hx : a.eval x = .slice A n c) (hy : a.eval y = .int .i64 (j : Int)) (hA : A = some ⟨b, off, none⟩) (hj : j < n) : (execOp a.eval o).run Tryd.prog w = .ok (.value (.pointer (some ⟨b, off + j * 32, none⟩))) w := by
  subst hA
  unfold execOp
  simp only [ho, hx, hy]
  have h0 : (0 : Int) ≤ (j : Int) := by omega
  have h1 : (j : Int) < (n : Int) := by omega
  go_simp
theorem wp_lit_int53 (d : Nat) (hd : o.dst = some d) (y : Operand) (ho : o.op = .buildSlice 53 1 #[(0, y)]) (x : Int) (hy : a.eval y = .int .i64 x)
    (h : ∀ w', Blk w' w.heap.size 3 [.int .i64 x] → Below w.heap.size w w' → K (a.put (some d) (.slice (some ⟨w.heap.size, 0, none⟩) 1 1)) w') : o.wp Tryd.prog a w K Q := by
  obtain ⟨i, z, ht, hi, hz, hsize, hby, hzs, _, _⟩ := el_int53
  refine wp_buildSlice 53 3 1 _ ho #[.int .i64 x] i z ht hi hz (by rw [hsize]; omega) (by rw [hsize]; omega) ?_ (by rw [hd]; exact h _ (Blk.new w 3 [.int .i64 x]) ((Below.refl _ _).alloc (Nat.le_refl _) _))
  have e : (#[(0, y)].map fun (p : Nat × Operand) => (p.1, a.eval p.2)).toList = ([Value.int .i64 x].zipIdx 0).map fun x => (x.2, x.1) := by simp [hy]
  rw [e, hsize]
  exact Great.fill_flat _ _ (fun v hv => by simp at hv; subst hv; rfl) (by simp)
theorem wp_lit_hash87 (d : Nat) (hd : o.dst = some d) (y : Operand) (ho : o.op = .buildSlice 87 1 #[(0, y)]) (x : List Int) (hx : x.length = 32) (hy : a.eval y = .agg (u8s x).toArray)
    (h : ∀ w', Blk w' w.heap.size 25 (u8s x) → Below w.heap.size w w' → K (a.put (some d) (.slice (some ⟨w.heap.size, 0, none⟩) 1 1)) w') : o.wp Tryd.prog a w K Q := by
  obtain ⟨i, z, ht, hi, hz, hsize, hby, hzs, _, _⟩ := el_hash87
  refine wp_buildSlice 87 25 1 _ ho (u8s x).toArray i z ht hi hz (by rw [hsize]; omega) (by rw [hsize]; omega) ?_ (by rw [hd]; exact h _ (Blk.new w 25 (u8s x)) ((Below.refl _ _).alloc (Nat.le_refl _) _))
  have e : (#[(0, y)].map fun (p : Nat × Operand) => (p.1, a.eval p.2)).toList = ([Value.agg (u8s x).toArray].zipIdx 0).map fun x => (x.2, x.1) := by simp [hy]
  rw [e, hsize]
  have := Great.fill_whole (s := 32) (by decide) [Value.agg (u8s x).toArray] ((Array.range (1 * 32)).map (z.cells[· % z.cells.size]!)) (by intro u hu; rw [List.mem_singleton.1 hu]; show (u8s x).toArray.size = 32; rw [List.size_toArray, u8s_len, hx]) (by simp)
  rw [this]
  congr 2
  show ([Value.agg (u8s x).toArray].flatMap fun v => v.cells.toList) = u8s x
  simp [Value.cells]
end
theorem below_drewN {B : Nat} {w w' : World} (h : Below B w w') : ∀ n, Below B w (w'.drewN n) := fun n => ⟨h.os, h.tape, h.output, h.size, h.block⟩
theorem ordT_wf (idx : List Int) : ∀ m, WfT (Heap.ordT (ordH idx) m)
  | 0 => fun x hx => by cases hx
  | m + 1 => fun x hx => by
    rcases List.mem_cons.1 ((Heap.insT_perm _ _).mem_iff.1 hx) with rfl | h
    · exact ordH_ok idx m
    · exact ordT_wf idx m x h
theorem posK_step {l : List Heap.T} {h : List Int} {q : Nat} (hc : Heap.cmpL (l.getD q Heap.t0).2 h = 1) : Heap.posK l h (q + 1) = Heap.posK l h q := by rw [Heap.posK, if_pos hc]
theorem posK_stop {l : List Heap.T} {h : List Int} {q : Nat} (hc : ¬ Heap.cmpL (l.getD q Heap.t0).2 h = 1) : Heap.posK l h (q + 1) = q + 1 := by rw [Heap.posK, if_neg hc]
/-- What is written behind a round: the row with one more. -/
theorem ins_ints (l : List Heap.T) (i k : Nat) (RES : List Int) (hl : l.length = i) (hk : Heap.posK l RES i = k) :
    (((l.map Prod.fst).map (Value.int .i64)).drop (0 * 1)).take ((k - 0) * 1) ++ ([Value.int .i64 (i : Int)] ++ (((l.map Prod.fst).map (Value.int .i64)).drop (k * 1)).take ((i - k) * 1)) = ((Heap.insT l ((i : Int), RES)).map Prod.fst).map (Value.int .i64) := by
  unfold Heap.insT
  have hki : k ≤ i := by rw [← hk]; exact Heap.posK_le _ _ _
  show _ = ((l.take (Heap.posK l RES l.length) ++ ((i : Int), RES) :: l.drop (Heap.posK l RES l.length)).map Prod.fst).map (Value.int .i64)
  rw [hl, hk, Nat.zero_mul, List.drop_zero, Nat.mul_one, Nat.mul_one, Nat.mul_one, Nat.sub_zero]
  simp only [List.map_append, List.map_cons, List.map_take, List.map_drop]
  rw [List.take_of_length_le (l := List.drop k _) (by simp [hl])]
  rfl
theorem ins_hashes (l : List Heap.T) (hw : WfT l) (i k : Nat) (RES : List Int) (hl : l.length = i) (hk : Heap.posK l RES i = k) :
    ((hsC l).drop (0 * 32)).take ((k - 0) * 32) ++ (u8s RES ++ ((hsC l).drop (k * 32)).take ((i - k) * 32)) = hsC (Heap.insT l ((i : Int), RES)) := by
  have hki : k ≤ i := by rw [← hk]; exact Heap.posK_le _ _ _
  show _ = hsC (l.take (Heap.posK l RES l.length) ++ ((i : Int), RES) :: l.drop (Heap.posK l RES l.length))
  rw [hl, hk, Nat.zero_mul, List.drop_zero, Nat.sub_zero, (hsC_cut hw k (by omega)).1, (hsC_cut hw k (by omega)).2]
  rw [List.take_of_length_le (l := hsC (List.drop k l)) (by rw [hsC_len (hw.drop k), List.length_drop, hl]; omega)]
  rw [hsC_app]
  rfl
theorem drop_one {xs : List Value} (h : ∀ u ∈ xs, u.oneCell' = true) (a b : Nat) : ∀ u ∈ (xs.drop a).take b, u.oneCell' = true := fun u hu => h u (List.mem_of_mem_drop (List.mem_of_mem_take hu))
theorem app_one {xs ys : List Value} (h : ∀ u ∈ xs, u.oneCell' = true) (h' : ∀ u ∈ ys, u.oneCell' = true) : ∀ u ∈ xs ++ ys, u.oneCell' = true := fun u hu => by
  rcases List.mem_append.1 hu with hu | hu
  · exact h u hu
  · exact h' u hu
theorem Order_ref (n : Int) (idx : List Int) (w : World) (hn : -9223372036854775808 ≤ n ∧ n ≤ 9223372036854775807) (hi : idx.length = 16) (hb : Bytes idx) :
    Calls Tryd.prog 48 #[.int .i64 n, .agg (u8s idx).toArray] w fun e w' => ∃ v, e = .returned v ∧ Ints w' w'.heap.size v (orderF n idx) ∧ Below w.heap.size w w' := by
  have HIL := hide hi
  have HIB := hide hb
  obtain ⟨KV, HKV⟩ : ∃ x, Hid (Value.agg (u8s idx).toArray = x) := ⟨_, hide rfl⟩
  obtain ⟨m, HM⟩ : ∃ m, Hid (ordN n = m) := ⟨_, hide rfl⟩
  have HMI := hide (show ∀ i : Nat, i < m ↔ (i : Int) < n ∧ (i : Int) < 8 from fun i => by rw [← HM.out]; unfold ordN; omega)
  have hm8 : m ≤ 8 := by rw [← HM.out]; unfold ordN; omega
  have HOF := hide (show orderF n idx = (Heap.ordT (ordH idx) m).map Prod.fst by rw [← HM.out]; rfl)
  obtain ⟨base, HBS⟩ : ∃ k, Hid (w.heap.size = k) := ⟨_, hide rfl⟩
  have HPN := hide (fun (i : Nat) => show (∀ x ∈ [idx, putF (i : Int) 2], Bytes x) ∧ ∀ x ∈ [idx, putF (i : Int) 2], x.length ≤ 1000000 from ⟨by
    intro x hx
    simp only [List.mem_cons, List.not_mem_nil, or_false] at hx
    rcases hx with rfl | rfl
    · exact HIB.out
    · exact putF_bytes _ _, by
    intro x hx
    simp only [List.mem_cons, List.not_mem_nil, or_false] at hx
    rcases hx with rfl | rfl
    · rw [HIL.out]; omega
    · have h1 : (putF (i : Int) 2).length = wid 2 := putN_len _ _
      have := wid_le 2
      omega⟩)
  rw [HOF.out, HKV.out]
  rw [HBS.out]
  clear hb hi
  go_enter Tryd.func48, Tryd.ntmps48
  go_wp2_with (refine wpList_box_key _ rfl idx HKV.out.symm rfl ?_; intro w1 hb1 hw1 hs1; rw [HBS.out] at hb1 hs1 hw1 ⊢; have HK1 := hide hb1; have HW1 := hide hw1; clear hb1 hw1)
  go_loopw [5, 6, 7] (fun v5 v6 v7 wr => ∃ i : Nat, v7 = .int .i64 i ∧ i ≤ m ∧ Rd wr wr.heap.size 1 v5 i (((Heap.ordT (ordH idx) i).map Prod.fst).map (.int .i64)) ∧ Rd wr wr.heap.size 32 v6 i (hsC (Heap.ordT (ordH idx) i)) ∧ Blk wr base 23 (u8s idx) ∧ Below base w wr) (fun _ _ v7 _ => m - (intOf v7).toNat)
  case atStart => exact ⟨0, by go_num, by omega, Rd.nil_ _ _ _, Rd.nil_ _ _ _, HK1.out, HW1.out⟩
  case round =>
    obtain ⟨i, rfl, him, h5, h6, hk, hw⟩ := hrel
    rename World => wo
    clear HK1 HW1 hs1
    have H5 := hide h5
    have H6 := hide h6
    have HK0 := hide hk
    have HW := hide hw
    clear h5 h6 hk hw
    by_cases hlt : i < m
    · have hin := ((HMI.out i).1 hlt).1
      have hi8 := ((HMI.out i).1 hlt).2
      have HBY := hide (HPN.out i).1
      have HBL := hide (HPN.out i).2
      obtain ⟨RES, HRES0⟩ : ∃ x, Hid (ordH idx i = x) := ⟨_, hide rfl⟩
      have HRES := hide (show taggedF (strB tOrder) [idx, putF (i : Int) 2] = RES by rw [← HRES0.out]; rfl)
      have HRL := hide (show RES.length = 32 ∧ Bytes RES by rw [← HRES0.out]; exact ordH_ok idx i)
      obtain ⟨l, HLE⟩ : ∃ x, Hid (Heap.ordT (ordH idx) i = x) := ⟨_, hide rfl⟩
      have HLW := hide (show WfT l by rw [← HLE.out]; exact ordT_wf idx i)
      have HLL := hide (show l.length = i by rw [← HLE.out]; exact Heap.ordT_len _ i)
      rw [HLE.out] at H5 H6
      obtain ⟨A5, c5, rfl, h51, h52⟩ := H5.out.shape
      obtain ⟨A6, c6, rfl, h61, h62⟩ := H6.out.shape
      rw [maxLen_eq] at h52 h62
      go_upto_region 6 with fail
      go_cut [8] from 10 to 62 (fun v8 wx => ∃ gh : Nat, v8 = .pointer (some ⟨gh, 0, none⟩) ∧ Blk wx gh 25 (u8s RES) ∧ wo.heap.size ≤ gh ∧ Below wo.heap.size wo wx)
      case first =>
        refine wp_region_held_drew (S := fun _ => True) (by kernel_rfl) trivial (fun hHeld => ?_)
        have HB := hide ((Below.refl wo.heap.size wo).drew)
        have HBZ := hide (Nat.le_refl wo.heap.size)
        replace HK0 := hide HK0.out.drew
        refine take_d 19 (i := 0) (v := .slice (some ⟨base, 0, none⟩) 16 16) rfl (by kernel_rfl) (by kernel_rfl) (by kernel_rfl) (by kernel_rfl) (fun _ _ _ h => h) (Or.inl ⟨by kernel_rfl, fun w' hS => exec_slice_key _ rfl base 0 rfl⟩) hHeld ?_
        try simp only [Act.put, List.setIfInBounds_toArray, List.set_cons_zero, List.set_cons_succ]
        refine take_d 20 (i := 1) (v := .int .i64 (i : Int)) rfl (by kernel_rfl) (by kernel_rfl) (by kernel_rfl) (by kernel_rfl) (fun _ _ _ h => h) (Or.inl ⟨by kernel_rfl, fun w' hS => exec_move _ rfl _ rfl⟩) hHeld ?_
        try simp only [Act.put, List.setIfInBounds_toArray, List.set_cons_zero, List.set_cons_succ]
        refine wpAnyH_ready (rs := [2, 5]) (by kernel_rfl) (by simp) (AllReadyH.cons rfl (fun K hK => ?q1_2) (AllReadyH.cons rfl (fun K hK => ?q2_5) AllReadyH.nil))
        case q1_2 =>
          rw [if_pos (by kernel_rfl)]
          try go_simp
          refine (Put_ref (i : Int) 2 _ (by omega) (by omega)).mono ?_
          rintro e wp ⟨v1, rfl, ho1, hb1⟩
          have HBx := hide (HB.out.trans (hb1.mono HB.out.size))
          replace HK0 := hide (HK0.out.below hb1 HK0.out.lt)
          replace HB := HBx
          clear HBx
          try replace HGH := hide (HGH.out.below hb1 HGH.out.lt)
          try replace HO := hide (HO.out.keptB hb1)
          try replace HR := hide ((HR.out.below hb1 (Nat.le_refl _)).more hb1.size)
          have HO := hide ho1
          clear ho1 hb1
          refine hK.out _ _ hHeld (fun hHeld => ?_)
          clear hK K
          try simp only [Act.put, List.setIfInBounds_toArray, List.set_cons_zero, List.set_cons_succ]
          refine wpAnyH_ready (rs := [3, 5]) (by kernel_rfl) (by simp) (AllReadyH.cons rfl (fun K hK => ?q3_3) (AllReadyH.cons rfl (fun K hK => ?q4_5) AllReadyH.nil))
          case q3_3 =>
            rw [if_pos (by kernel_rfl)]
            refine wp_rows2D 22 rfl _ _ rfl (.slice (some ⟨base, 0, none⟩) 16 16) v1 rfl rfl rfl HO.out.cells ?_
            intro wl hbl hbb
            have HBx := hide (HB.out.trans (hbb.mono HB.out.size))
            replace HK0 := hide (HK0.out.below hbb HK0.out.lt)
            replace HB := HBx
            clear HBx
            try replace HGH := hide (HGH.out.below hbb HGH.out.lt)
            try replace HO := hide (HO.out.keptB hbb)
            try replace HR := hide ((HR.out.below hbb (Nat.le_refl _)).more hbb.size)
            have HR := hide (rows_two hbl (HK0.out.reads HIL.out (by omega)) HO.out.reads)
            clear hbl hbb
            refine hK.out _ _ hHeld (fun hHeld => ?_)
            clear hK K
            try simp only [Act.put, List.setIfInBounds_toArray, List.set_cons_zero, List.set_cons_succ]
            refine wpAnyH_ready (rs := [4, 5]) (by kernel_rfl) (by simp) (AllReadyH.cons rfl (fun K hK => ?q5_4) (AllReadyH.cons rfl (fun K hK => ?q6_5) AllReadyH.nil))
            case q5_4 =>
              rw [if_pos (by kernel_rfl)]
              try go_simp
              refine (Tagged_ref tOrder _ [idx, putF (i : Int) 2] _ HR.out HBY.out HBL.out (by simp) (by decide)).mono ?_
              rintro e wt ⟨rfl, hb2⟩
              rw [HRES.out]
              have HBx := hide (HB.out.trans (hb2.mono HB.out.size))
              replace HK0 := hide (HK0.out.below hb2 HK0.out.lt)
              replace HB := HBx
              clear HBx
              try replace HGH := hide (HGH.out.below hb2 HGH.out.lt)
              try replace HO := hide (HO.out.keptB hb2)
              try replace HR := hide ((HR.out.below hb2 (Nat.le_refl _)).more hb2.size)
              clear hb2
              refine hK.out _ _ hHeld (fun hHeld => ?_)
              clear hK K
              try simp only [Act.put, List.setIfInBounds_toArray, List.set_cons_zero, List.set_cons_succ]
              refine wpAnyH_ready (rs := [5]) (by kernel_rfl) (by simp) (AllReadyH.cons rfl (fun K hK => ?_) AllReadyH.nil)
              rw [if_pos (by kernel_rfl)]
              refine wp_alloc_blkG 25 8 rfl rfl _ zero_hash ?_
              intro gh wg hgg hbg hbb
              have HBold := HB
              have HBx := hide (HB.out.trans (hbb.mono HB.out.size))
              replace HK0 := hide (HK0.out.below hbb HK0.out.lt)
              replace HB := HBx
              clear HBx
              try replace HGH := hide (HGH.out.below hbb HGH.out.lt)
              try replace HO := hide (HO.out.keptB hbb)
              try replace HR := hide ((HR.out.below hbb (Nat.le_refl _)).more hbb.size)
              have HGH := hide hbg
              have HGG := hide (Nat.le_trans HBold.out.size hgg)
              clear hbg hbb hgg
              refine hK.out _ _ hHeld (fun hHeld => ?_)
              clear hK K
              try simp only [Act.put, List.setIfInBounds_toArray, List.set_cons_zero, List.set_cons_succ]
              refine wpAnyH_ready (rs := [6]) (by kernel_rfl) (by simp) (AllReadyH.cons rfl (fun K hK => ?_) AllReadyH.nil)
              rw [if_pos (by kernel_rfl)]
              refine wp_store_blkD 25 _ _ rfl rfl gh 0 (u8s RES) rfl rfl _ _ HGH.out (by rw [u8s_len, u8s_len, HRL.out.1]; simp) (by rw [u8s_len, HRL.out.1]; exact size_hash) (u8s_one _) ?_
              intro w7 hb7 hg7 hs7
              rw [lset_all _ _ (by rw [u8s_len, u8s_len, HRL.out.1]; rfl)] at hb7
              have HB7 := hide (HB.out.grown hg7 (by have := HB.out.size; omega) (by intro k hk; simp at hk; subst hk; exact HGG.out))
              refine hK.out _ _ hHeld (fun hHeld => ?_)
              clear hK K
              try simp only [Act.put, List.setIfInBounds_toArray, List.set_cons_zero, List.set_cons_succ]
              refine wpAnyH_done (by kernel_rfl) ?_ _
              first | go_wp2_with fail | skip
              go_meet
              exact ⟨gh, rfl, hb7, HGG.out, HB7.out⟩
            case q6_5 =>
              rw [if_pos (by kernel_rfl)]
              refine wp_alloc_blkG 25 8 rfl rfl _ zero_hash ?_
              intro gh wg hgg hbg hbb
              have HBold := HB
              have HBx := hide (HB.out.trans (hbb.mono HB.out.size))
              replace HK0 := hide (HK0.out.below hbb HK0.out.lt)
              replace HB := HBx
              clear HBx
              try replace HGH := hide (HGH.out.below hbb HGH.out.lt)
              try replace HO := hide (HO.out.keptB hbb)
              try replace HR := hide ((HR.out.below hbb (Nat.le_refl _)).more hbb.size)
              have HGH := hide hbg
              have HGG := hide (Nat.le_trans HBold.out.size hgg)
              clear hbg hbb hgg
              refine hK.out _ _ hHeld (fun hHeld => ?_)
              clear hK K
              try simp only [Act.put, List.setIfInBounds_toArray, List.set_cons_zero, List.set_cons_succ]
              refine wpAnyH_ready (rs := [4]) (by kernel_rfl) (by simp) (AllReadyH.cons rfl (fun K hK => ?_) AllReadyH.nil)
              rw [if_pos (by kernel_rfl)]
              try go_simp
              refine (Tagged_ref tOrder _ [idx, putF (i : Int) 2] _ HR.out HBY.out HBL.out (by simp) (by decide)).mono ?_
              rintro e wt ⟨rfl, hb2⟩
              rw [HRES.out]
              have HBx := hide (HB.out.trans (hb2.mono HB.out.size))
              replace HK0 := hide (HK0.out.below hb2 HK0.out.lt)
              replace HB := HBx
              clear HBx
              try replace HGH := hide (HGH.out.below hb2 HGH.out.lt)
              try replace HO := hide (HO.out.keptB hb2)
              try replace HR := hide ((HR.out.below hb2 (Nat.le_refl _)).more hb2.size)
              clear hb2
              refine hK.out _ _ hHeld (fun hHeld => ?_)
              clear hK K
              try simp only [Act.put, List.setIfInBounds_toArray, List.set_cons_zero, List.set_cons_succ]
              refine wpAnyH_ready (rs := [6]) (by kernel_rfl) (by simp) (AllReadyH.cons rfl (fun K hK => ?_) AllReadyH.nil)
              rw [if_pos (by kernel_rfl)]
              refine wp_store_blkD 25 _ _ rfl rfl gh 0 (u8s RES) rfl rfl _ _ HGH.out (by rw [u8s_len, u8s_len, HRL.out.1]; simp) (by rw [u8s_len, HRL.out.1]; exact size_hash) (u8s_one _) ?_
              intro w7 hb7 hg7 hs7
              rw [lset_all _ _ (by rw [u8s_len, u8s_len, HRL.out.1]; rfl)] at hb7
              have HB7 := hide (HB.out.grown hg7 (by have := HB.out.size; omega) (by intro k hk; simp at hk; subst hk; exact HGG.out))
              refine hK.out _ _ hHeld (fun hHeld => ?_)
              clear hK K
              try simp only [Act.put, List.setIfInBounds_toArray, List.set_cons_zero, List.set_cons_succ]
              refine wpAnyH_done (by kernel_rfl) ?_ _
              first | go_wp2_with fail | skip
              go_meet
              exact ⟨gh, rfl, hb7, HGG.out, HB7.out⟩
          case q4_5 =>
            rw [if_pos (by kernel_rfl)]
            refine wp_alloc_blkG 25 8 rfl rfl _ zero_hash ?_
            intro gh wg hgg hbg hbb
            have HBold := HB
            have HBx := hide (HB.out.trans (hbb.mono HB.out.size))
            replace HK0 := hide (HK0.out.below hbb HK0.out.lt)
            replace HB := HBx
            clear HBx
            try replace HGH := hide (HGH.out.below hbb HGH.out.lt)
            try replace HO := hide (HO.out.keptB hbb)
            try replace HR := hide ((HR.out.below hbb (Nat.le_refl _)).more hbb.size)
            have HGH := hide hbg
            have HGG := hide (Nat.le_trans HBold.out.size hgg)
            clear hbg hbb hgg
            refine hK.out _ _ hHeld (fun hHeld => ?_)
            clear hK K
            try simp only [Act.put, List.setIfInBounds_toArray, List.set_cons_zero, List.set_cons_succ]
            refine wpAnyH_ready (rs := [3]) (by kernel_rfl) (by simp) (AllReadyH.cons rfl (fun K hK => ?_) AllReadyH.nil)
            rw [if_pos (by kernel_rfl)]
            refine wp_rows2D 22 rfl _ _ rfl (.slice (some ⟨base, 0, none⟩) 16 16) v1 rfl rfl rfl HO.out.cells ?_
            intro wl hbl hbb
            have HBx := hide (HB.out.trans (hbb.mono HB.out.size))
            replace HK0 := hide (HK0.out.below hbb HK0.out.lt)
            replace HB := HBx
            clear HBx
            try replace HGH := hide (HGH.out.below hbb HGH.out.lt)
            try replace HO := hide (HO.out.keptB hbb)
            try replace HR := hide ((HR.out.below hbb (Nat.le_refl _)).more hbb.size)
            have HR := hide (rows_two hbl (HK0.out.reads HIL.out (by omega)) HO.out.reads)
            clear hbl hbb
            refine hK.out _ _ hHeld (fun hHeld => ?_)
            clear hK K
            try simp only [Act.put, List.setIfInBounds_toArray, List.set_cons_zero, List.set_cons_succ]
            refine wpAnyH_ready (rs := [4]) (by kernel_rfl) (by simp) (AllReadyH.cons rfl (fun K hK => ?_) AllReadyH.nil)
            rw [if_pos (by kernel_rfl)]
            try go_simp
            refine (Tagged_ref tOrder _ [idx, putF (i : Int) 2] _ HR.out HBY.out HBL.out (by simp) (by decide)).mono ?_
            rintro e wt ⟨rfl, hb2⟩
            rw [HRES.out]
            have HBx := hide (HB.out.trans (hb2.mono HB.out.size))
            replace HK0 := hide (HK0.out.below hb2 HK0.out.lt)
            replace HB := HBx
            clear HBx
            try replace HGH := hide (HGH.out.below hb2 HGH.out.lt)
            try replace HO := hide (HO.out.keptB hb2)
            try replace HR := hide ((HR.out.below hb2 (Nat.le_refl _)).more hb2.size)
            clear hb2
            refine hK.out _ _ hHeld (fun hHeld => ?_)
            clear hK K
            try simp only [Act.put, List.setIfInBounds_toArray, List.set_cons_zero, List.set_cons_succ]
            refine wpAnyH_ready (rs := [6]) (by kernel_rfl) (by simp) (AllReadyH.cons rfl (fun K hK => ?_) AllReadyH.nil)
            rw [if_pos (by kernel_rfl)]
            refine wp_store_blkD 25 _ _ rfl rfl gh 0 (u8s RES) rfl rfl _ _ HGH.out (by rw [u8s_len, u8s_len, HRL.out.1]; simp) (by rw [u8s_len, HRL.out.1]; exact size_hash) (u8s_one _) ?_
            intro w7 hb7 hg7 hs7
            rw [lset_all _ _ (by rw [u8s_len, u8s_len, HRL.out.1]; rfl)] at hb7
            have HB7 := hide (HB.out.grown hg7 (by have := HB.out.size; omega) (by intro k hk; simp at hk; subst hk; exact HGG.out))
            refine hK.out _ _ hHeld (fun hHeld => ?_)
            clear hK K
            try simp only [Act.put, List.setIfInBounds_toArray, List.set_cons_zero, List.set_cons_succ]
            refine wpAnyH_done (by kernel_rfl) ?_ _
            first | go_wp2_with fail | skip
            go_meet
            exact ⟨gh, rfl, hb7, HGG.out, HB7.out⟩
        case q2_5 =>
          rw [if_pos (by kernel_rfl)]
          refine wp_alloc_blkG 25 8 rfl rfl _ zero_hash ?_
          intro gh wg hgg hbg hbb
          have HBold := HB
          have HBx := hide (HB.out.trans (hbb.mono HB.out.size))
          replace HK0 := hide (HK0.out.below hbb HK0.out.lt)
          replace HB := HBx
          clear HBx
          try replace HGH := hide (HGH.out.below hbb HGH.out.lt)
          try replace HO := hide (HO.out.keptB hbb)
          try replace HR := hide ((HR.out.below hbb (Nat.le_refl _)).more hbb.size)
          have HGH := hide hbg
          have HGG := hide (Nat.le_trans HBold.out.size hgg)
          clear hbg hbb hgg
          refine hK.out _ _ hHeld (fun hHeld => ?_)
          clear hK K
          try simp only [Act.put, List.setIfInBounds_toArray, List.set_cons_zero, List.set_cons_succ]
          refine wpAnyH_ready (rs := [2]) (by kernel_rfl) (by simp) (AllReadyH.cons rfl (fun K hK => ?_) AllReadyH.nil)
          rw [if_pos (by kernel_rfl)]
          try go_simp
          refine (Put_ref (i : Int) 2 _ (by omega) (by omega)).mono ?_
          rintro e wp ⟨v1, rfl, ho1, hb1⟩
          have HBx := hide (HB.out.trans (hb1.mono HB.out.size))
          replace HK0 := hide (HK0.out.below hb1 HK0.out.lt)
          replace HB := HBx
          clear HBx
          try replace HGH := hide (HGH.out.below hb1 HGH.out.lt)
          try replace HO := hide (HO.out.keptB hb1)
          try replace HR := hide ((HR.out.below hb1 (Nat.le_refl _)).more hb1.size)
          have HO := hide ho1
          clear ho1 hb1
          refine hK.out _ _ hHeld (fun hHeld => ?_)
          clear hK K
          try simp only [Act.put, List.setIfInBounds_toArray, List.set_cons_zero, List.set_cons_succ]
          refine wpAnyH_ready (rs := [3]) (by kernel_rfl) (by simp) (AllReadyH.cons rfl (fun K hK => ?_) AllReadyH.nil)
          rw [if_pos (by kernel_rfl)]
          refine wp_rows2D 22 rfl _ _ rfl (.slice (some ⟨base, 0, none⟩) 16 16) v1 rfl rfl rfl HO.out.cells ?_
          intro wl hbl hbb
          have HBx := hide (HB.out.trans (hbb.mono HB.out.size))
          replace HK0 := hide (HK0.out.below hbb HK0.out.lt)
          replace HB := HBx
          clear HBx
          try replace HGH := hide (HGH.out.below hbb HGH.out.lt)
          try replace HO := hide (HO.out.keptB hbb)
          try replace HR := hide ((HR.out.below hbb (Nat.le_refl _)).more hbb.size)
          have HR := hide (rows_two hbl (HK0.out.reads HIL.out (by omega)) HO.out.reads)
          clear hbl hbb
          refine hK.out _ _ hHeld (fun hHeld => ?_)
          clear hK K
          try simp only [Act.put, List.setIfInBounds_toArray, List.set_cons_zero, List.set_cons_succ]
          refine wpAnyH_ready (rs := [4]) (by kernel_rfl) (by simp) (AllReadyH.cons rfl (fun K hK => ?_) AllReadyH.nil)
          rw [if_pos (by kernel_rfl)]
          try go_simp
          refine (Tagged_ref tOrder _ [idx, putF (i : Int) 2] _ HR.out HBY.out HBL.out (by simp) (by decide)).mono ?_
          rintro e wt ⟨rfl, hb2⟩
          rw [HRES.out]
          have HBx := hide (HB.out.trans (hb2.mono HB.out.size))
          replace HK0 := hide (HK0.out.below hb2 HK0.out.lt)
          replace HB := HBx
          clear HBx
          try replace HGH := hide (HGH.out.below hb2 HGH.out.lt)
          try replace HO := hide (HO.out.keptB hb2)
          try replace HR := hide ((HR.out.below hb2 (Nat.le_refl _)).more hb2.size)
          clear hb2
          refine hK.out _ _ hHeld (fun hHeld => ?_)
          clear hK K
          try simp only [Act.put, List.setIfInBounds_toArray, List.set_cons_zero, List.set_cons_succ]
          refine wpAnyH_ready (rs := [6]) (by kernel_rfl) (by simp) (AllReadyH.cons rfl (fun K hK => ?_) AllReadyH.nil)
          rw [if_pos (by kernel_rfl)]
          refine wp_store_blkD 25 _ _ rfl rfl gh 0 (u8s RES) rfl rfl _ _ HGH.out (by rw [u8s_len, u8s_len, HRL.out.1]; simp) (by rw [u8s_len, HRL.out.1]; exact size_hash) (u8s_one _) ?_
          intro w7 hb7 hg7 hs7
          rw [lset_all _ _ (by rw [u8s_len, u8s_len, HRL.out.1]; rfl)] at hb7
          have HB7 := hide (HB.out.grown hg7 (by have := HB.out.size; omega) (by intro k hk; simp at hk; subst hk; exact HGG.out))
          refine hK.out _ _ hHeld (fun hHeld => ?_)
          clear hK K
          try simp only [Act.put, List.setIfInBounds_toArray, List.set_cons_zero, List.set_cons_succ]
          refine wpAnyH_done (by kernel_rfl) ?_ _
          first | go_wp2_with fail | skip
          go_meet
          exact ⟨gh, rfl, hb7, HGG.out, HB7.out⟩
      case rest =>
      obtain ⟨gh, rfl, hgh, _, hbo⟩ := hcut
      have HGH := hide hgh
      replace H5 := hide ((H5.out.below hbo).more hbo.size)
      replace H6 := hide ((H6.out.below hbo).more hbo.size)
      have hbz := HW.out.size
      rw [HBS.out] at hbz
      have hbw := HK0.out.lt
      replace HK0 := hide (HK0.out.below hbo HK0.out.lt)
      have HW2 := hide (HW.out.trans (hbo.mono (by omega)))
      replace HW := HW2
      clear hgh hbo HW2
      have HGS := hide (HGH.out.reads HRL.out.1 (by omega))
      go_upto_block 2 with fail
      go_cut [9] from 10 to 62 (fun v9 wx => ∃ k : Nat, v9 = .int .i64 k ∧ Heap.posK l RES i = k ∧ Below wc.heap.size wc wx)
      case first =>
        go_wp2_with fail
        go_loopw [9] (fun v9 wr => ∃ k : Nat, v9 = .int .i64 k ∧ k ≤ i ∧ Heap.posK l RES k = Heap.posK l RES i ∧ Below wc.heap.size wc wr) (fun v9 _ => (intOf v9).toNat)
        case atStart => exact ⟨i, by go_num, Nat.le_refl _, rfl, Below.refl _ _⟩
        case round =>
          obtain ⟨k, rfl, hki, hps, hbb⟩ := hrel
          have HPS := hide hps
          have HBB := hide hbb
          clear hps hbb
          rcases k with _ | q
          · go_upto_region 8 with fail
            go_quiet (fail)
            have HF := hide (show Below wc.heap.size wc (wr.drewN nq) from below_drewN HBB.out _)
            go_wp2_with fail
            go_meet
            exact ⟨0, by go_num, HPS.out.symm, HF.out⟩
          · obtain ⟨d, HCM⟩ : ∃ d, Hid (decide (Heap.cmpL (l.getD q Heap.t0).2 RES = 1) = d) := ⟨_, hide rfl⟩
            obtain ⟨HQ, HHQ⟩ : ∃ x, Hid ((l.getD q Heap.t0).2 = x) := ⟨_, hide rfl⟩
            have hqi : q < i := by omega
            have HQY2 := hide (show HQ.length = 32 ∧ Bytes HQ by rw [← HHQ.out, Heap.getD_in l (by rw [HLL.out]; exact hqi)]; exact HLW.out _ (List.getElem_mem _))
            have HQY := hide HQY2.out.2
            rw [HHQ.out] at HCM
            have hgt : decide ((0 : Int) < ((q + 1 : Nat) : Int)) = true := decide_eq_true (by omega)
            obtain ⟨b6, o6, HA6, HQB⟩ : ∃ b6 o6, Hid (A6 = some ⟨b6, o6, none⟩) ∧ Hid (Bs wr wr.heap.size (.slice (some ⟨b6, o6 + q * 32, none⟩) 32 32) HQ) := by
              have hR := H6.out.below HBB.out
              obtain ⟨A', c', hv, _, _, _, h3⟩ := hR
              injection hv with e1 e2 e3
              subst e1
              obtain ⟨b6, o6, rfl, hb6, hc6⟩ := h3 (by omega)
              refine ⟨b6, o6, rfl, ?_⟩
              show Rd wr wr.heap.size 1 _ HQ.length (u8s HQ)
              rw [HQY2.out.1]
              refine ⟨_, 32, rfl, Nat.le_refl _, by decide, by rw [u8s_len, HQY2.out.1], fun _ => ⟨b6, o6 + q * 32, rfl, Nat.lt_of_lt_of_le hb6 HBB.out.size, fun j u hu => ?_⟩⟩
              rw [Nat.add_assoc]
              refine hc6 _ u (hsC_at HLW.out q (by rw [HLL.out]; exact hqi) j u ?_)
              rw [HHQ.out]
              exact hu
            have HGS' := hide ((HGS.out.below HBB.out (Nat.le_refl _)).more HBB.out.size)
            rcases d with _ | _
            · have hps : Heap.posK l RES i = q + 1 := by rw [← HPS.out]; exact posK_stop (by rw [HHQ.out]; exact of_decide_eq_false HCM.out)
              go_upto_region 8 with fail
              refine wp_region_quietC (fun w' => Below wr.heap.size wr w') (by kernel_rfl) (by kernel_rfl) (Below.refl _ _).drew ?_
              refine quiet_val 26 rfl (by kernel_rfl) (fun w' hw' => exec_move _ rfl (.int .i64 ((q + 1 : Nat) : Int)) rfl) ?_
              try simp only [Act.put, List.setIfInBounds_toArray, List.set_cons_zero, List.set_cons_succ]
              refine quiet_val 27 rfl (by kernel_rfl) (fun w' hw' => (exec_gtr_int _ _ _ rfl ((q + 1 : Nat) : Int) 0 rfl rfl).trans (by rw [hgt])) ?_
              try simp only [Act.put, List.setIfInBounds_toArray, List.set_cons_zero, List.set_cons_succ]
              refine quiet_val 28 rfl (by kernel_rfl) (fun w' hw' => exec_move _ rfl (.bool true) rfl) ?_
              try simp only [Act.put, List.setIfInBounds_toArray, List.set_cons_zero, List.set_cons_succ]
              refine quiet_val 29 rfl (by kernel_rfl) (fun w' hw' => exec_move _ rfl (.slice A6 i c6) rfl) ?_
              try simp only [Act.put, List.setIfInBounds_toArray, List.set_cons_zero, List.set_cons_succ]
              refine quiet_val 30 rfl (by kernel_rfl) (fun w' hw' => exec_move _ rfl (.int .i64 ((q + 1 : Nat) : Int)) rfl) ?_
              try simp only [Act.put, List.setIfInBounds_toArray, List.set_cons_zero, List.set_cons_succ]
              refine quiet_val 31 rfl (by kernel_rfl) (fun w' hw' => exec_i64_sub _ _ _ rfl ((q + 1 : Nat) : Int) 1 (q : Int) rfl rfl ((IntWalk.i64_in _ (by omega)).trans (by omega))) ?_
              try simp only [Act.put, List.setIfInBounds_toArray, List.set_cons_zero, List.set_cons_succ]
              refine quiet_val 32 rfl (by kernel_rfl) (fun w' hw' => exec_index_hrow _ _ rfl A6 i c6 b6 o6 q rfl rfl HA6.out hqi) ?_
              try simp only [Act.put, List.setIfInBounds_toArray, List.set_cons_zero, List.set_cons_succ]
              refine quiet_val 33 rfl (by kernel_rfl) (fun w' hw' => exec_slice_hash _ rfl b6 (o6 + q * 32) rfl) ?_
              try simp only [Act.put, List.setIfInBounds_toArray, List.set_cons_zero, List.set_cons_succ]
              refine quiet_val 34 rfl (by kernel_rfl) (fun w' hw' => exec_to_string _ rfl wr.heap.size (.slice (some ⟨b6, o6 + q * 32, none⟩) 32 32) HQ rfl ((HQB.out).below hw' (Nat.le_refl _))) ?_
              try simp only [Act.put, List.setIfInBounds_toArray, List.set_cons_zero, List.set_cons_succ]
              refine quiet_val 35 rfl (by kernel_rfl) (fun w' hw' => exec_slice_hash _ rfl gh 0 rfl) ?_
              try simp only [Act.put, List.setIfInBounds_toArray, List.set_cons_zero, List.set_cons_succ]
              refine quiet_val 36 rfl (by kernel_rfl) (fun w' hw' => exec_to_string _ rfl wr.heap.size (.slice (some ⟨gh, 0, none⟩) 32 32) RES rfl ((HGS'.out).below hw' (Nat.le_refl _))) ?_
              try simp only [Act.put, List.setIfInBounds_toArray, List.set_cons_zero, List.set_cons_succ]
              refine quiet_val 37 rfl (by kernel_rfl) (fun w' hw' => (exec_gtr_str _ _ _ rfl HQ RES rfl rfl HQY.out HRL.out.2).trans (by rw [HCM.out])) ?_
              try simp only [Act.put, List.setIfInBounds_toArray, List.set_cons_zero, List.set_cons_succ]
              refine quiet_val 38 rfl (by kernel_rfl) (fun w' hw' => exec_pick_t' _ _ _ rfl rfl (.bool false) rfl) ?_
              try simp only [Act.put, List.setIfInBounds_toArray, List.set_cons_zero, List.set_cons_succ]
              refine wpQuiet_nil ?_
              intro w3 hb3
              have HF := hide (HBB.out.trans (hb3.mono HBB.out.size))
              have HPP := hide hps
              clear hps
              go_wp2_with fail
              go_meet
              exact ⟨q + 1, by go_num, HPP.out, HF.out⟩
            · have hps : Heap.posK l RES q = Heap.posK l RES i := by rw [← HPS.out]; exact (posK_step (by rw [HHQ.out]; exact of_decide_eq_true HCM.out)).symm
              go_upto_region 8 with fail
              refine wp_region_quietC (fun w' => Below wr.heap.size wr w') (by kernel_rfl) (by kernel_rfl) (Below.refl _ _).drew ?_
              refine quiet_val 26 rfl (by kernel_rfl) (fun w' hw' => exec_move _ rfl (.int .i64 ((q + 1 : Nat) : Int)) rfl) ?_
              try simp only [Act.put, List.setIfInBounds_toArray, List.set_cons_zero, List.set_cons_succ]
              refine quiet_val 27 rfl (by kernel_rfl) (fun w' hw' => (exec_gtr_int _ _ _ rfl ((q + 1 : Nat) : Int) 0 rfl rfl).trans (by rw [hgt])) ?_
              try simp only [Act.put, List.setIfInBounds_toArray, List.set_cons_zero, List.set_cons_succ]
              refine quiet_val 28 rfl (by kernel_rfl) (fun w' hw' => exec_move _ rfl (.bool true) rfl) ?_
              try simp only [Act.put, List.setIfInBounds_toArray, List.set_cons_zero, List.set_cons_succ]
              refine quiet_val 29 rfl (by kernel_rfl) (fun w' hw' => exec_move _ rfl (.slice A6 i c6) rfl) ?_
              try simp only [Act.put, List.setIfInBounds_toArray, List.set_cons_zero, List.set_cons_succ]
              refine quiet_val 30 rfl (by kernel_rfl) (fun w' hw' => exec_move _ rfl (.int .i64 ((q + 1 : Nat) : Int)) rfl) ?_
              try simp only [Act.put, List.setIfInBounds_toArray, List.set_cons_zero, List.set_cons_succ]
              refine quiet_val 31 rfl (by kernel_rfl) (fun w' hw' => exec_i64_sub _ _ _ rfl ((q + 1 : Nat) : Int) 1 (q : Int) rfl rfl ((IntWalk.i64_in _ (by omega)).trans (by omega))) ?_
              try simp only [Act.put, List.setIfInBounds_toArray, List.set_cons_zero, List.set_cons_succ]
              refine quiet_val 32 rfl (by kernel_rfl) (fun w' hw' => exec_index_hrow _ _ rfl A6 i c6 b6 o6 q rfl rfl HA6.out hqi) ?_
              try simp only [Act.put, List.setIfInBounds_toArray, List.set_cons_zero, List.set_cons_succ]
              refine quiet_val 33 rfl (by kernel_rfl) (fun w' hw' => exec_slice_hash _ rfl b6 (o6 + q * 32) rfl) ?_
              try simp only [Act.put, List.setIfInBounds_toArray, List.set_cons_zero, List.set_cons_succ]
              refine quiet_val 34 rfl (by kernel_rfl) (fun w' hw' => exec_to_string _ rfl wr.heap.size (.slice (some ⟨b6, o6 + q * 32, none⟩) 32 32) HQ rfl ((HQB.out).below hw' (Nat.le_refl _))) ?_
              try simp only [Act.put, List.setIfInBounds_toArray, List.set_cons_zero, List.set_cons_succ]
              refine quiet_val 35 rfl (by kernel_rfl) (fun w' hw' => exec_slice_hash _ rfl gh 0 rfl) ?_
              try simp only [Act.put, List.setIfInBounds_toArray, List.set_cons_zero, List.set_cons_succ]
              refine quiet_val 36 rfl (by kernel_rfl) (fun w' hw' => exec_to_string _ rfl wr.heap.size (.slice (some ⟨gh, 0, none⟩) 32 32) RES rfl ((HGS'.out).below hw' (Nat.le_refl _))) ?_
              try simp only [Act.put, List.setIfInBounds_toArray, List.set_cons_zero, List.set_cons_succ]
              refine quiet_val 37 rfl (by kernel_rfl) (fun w' hw' => (exec_gtr_str _ _ _ rfl HQ RES rfl rfl HQY.out HRL.out.2).trans (by rw [HCM.out])) ?_
              try simp only [Act.put, List.setIfInBounds_toArray, List.set_cons_zero, List.set_cons_succ]
              refine quiet_val 38 rfl (by kernel_rfl) (fun w' hw' => exec_pick_t' _ _ _ rfl rfl (.bool true) rfl) ?_
              try simp only [Act.put, List.setIfInBounds_toArray, List.set_cons_zero, List.set_cons_succ]
              refine wpQuiet_nil ?_
              intro w3 hb3
              have HF := hide (HBB.out.trans (hb3.mono HBB.out.size))
              have HPP := hide hps
              clear hps
              go_wp2_with fail
              go_roundw
              case measure => first | (simp [intOf]; done) | (simp [intOf]; omega)
              case rel => exact ⟨q, by go_num, by omega, HPP.out, HF.out⟩
      case rest =>
      obtain ⟨k, rfl, hpk, hbo⟩ := hcut
      have hki : k ≤ i := by rw [← hpk]; exact Heap.posK_le _ _ _
      have HPK := hide hpk
      replace H5 := hide ((H5.out.below hbo).more hbo.size)
      replace H6 := hide ((H6.out.below hbo).more hbo.size)
      replace HGH := hide (HGH.out.below hbo HGH.out.lt)
      have hbw2 := HK0.out.lt
      replace HK0 := hide (HK0.out.below hbo HK0.out.lt)
      have HW2 := hide (HW.out.trans (hbo.mono (by omega)))
      replace HW := HW2
      clear hbo HW2 HGS hpk
      rename World => ws
      have hh51 : i ≤ c5 := h51
      have hh61 : i ≤ c6 := h61
      have hc51 := h51
      have hc61 := h61
      have ONE5 := hide (show ∀ a b, ∀ u ∈ (((l.map Prod.fst).map (Value.int .i64)).drop (a * 1)).take (b * 1), u.oneCell' = true from fun a b => drop_one (ints_one _) _ _)
      have ONE6 := hide (show ∀ a b, ∀ u ∈ ((hsC l).drop (a * 32)).take (b * 32), u.oneCell' = true from fun a b => drop_one (hsC_one l) _ _)
      have ONE5B := hide (show ∀ b a, ∀ u ∈ [Value.int .i64 (i : Int)] ++ (((l.map Prod.fst).map (Value.int .i64)).drop (a * 1)).take (b * 1), u.oneCell' = true from fun b a => app_one (ints_one [(i : Int)]) (ONE5.out a b))
      have ONE6B := hide (show ∀ b a, ∀ u ∈ u8s RES ++ ((hsC l).drop (a * 32)).take (b * 32), u.oneCell' = true from fun b a => app_one (u8s_one RES) (ONE6.out a b))
      go_upto_region 10 with fail
      refine wp_region_held_drew (S := fun w' => Below ws.heap.size ws w') (by kernel_rfl) (Below.refl _ _).drew (fun hHeld => ?_)
      refine take_d 41 (i := 0) (v := .slice A5 i c5) rfl (by kernel_rfl) (by kernel_rfl) (by kernel_rfl) (by kernel_rfl) (fun _ _ _ h => h) (Or.inl ⟨by kernel_rfl, fun w' hS => exec_move _ rfl _ rfl⟩) hHeld ?_
      try simp only [Act.put, List.setIfInBounds_toArray, List.set_cons_zero, List.set_cons_succ]
      refine take_d 42 (i := 1) (v := .int .i64 (k : Int)) rfl (by kernel_rfl) (by kernel_rfl) (by kernel_rfl) (by kernel_rfl) (fun _ _ _ h => h) (Or.inl ⟨by kernel_rfl, fun w' hS => exec_move _ rfl _ rfl⟩) hHeld ?_
      try simp only [Act.put, List.setIfInBounds_toArray, List.set_cons_zero, List.set_cons_succ]
      refine take_d 43 (i := 2) (v := .int .i64 (k : Int)) rfl (by kernel_rfl) (by kernel_rfl) (by kernel_rfl) (by kernel_rfl) (fun _ _ _ h => h) (Or.inl ⟨by kernel_rfl, fun w' hS => exec_move _ rfl _ rfl⟩) hHeld ?_
      try simp only [Act.put, List.setIfInBounds_toArray, List.set_cons_zero, List.set_cons_succ]
      refine take_d 44 (i := 3) (v := sliced A5 0 k k 1) rfl (by kernel_rfl) (by kernel_rfl) (by kernel_rfl) (by kernel_rfl) (fun _ _ _ h => h) (Or.inl ⟨by kernel_rfl, fun w' hS => exec_slice_full 53 3 1 Tryd.underlying53 size_int _ _ _ rfl A5 i c5 k rfl rfl rfl (by omega)⟩) hHeld ?_
      try simp only [Act.put, List.setIfInBounds_toArray, List.set_cons_zero, List.set_cons_succ]
      refine take_d 45 (i := 4) (v := .int .i64 (i : Int)) rfl (by kernel_rfl) (by kernel_rfl) (by kernel_rfl) (by kernel_rfl) (fun _ _ _ h => h) (Or.inl ⟨by kernel_rfl, fun w' hS => exec_move _ rfl _ rfl⟩) hHeld ?_
      try simp only [Act.put, List.setIfInBounds_toArray, List.set_cons_zero, List.set_cons_succ]
      refine take_d 47 (i := 6) (v := .slice A5 i c5) rfl (by kernel_rfl) (by kernel_rfl) (by kernel_rfl) (by kernel_rfl) (fun _ _ _ h => h) (Or.inl ⟨by kernel_rfl, fun w' hS => exec_move _ rfl _ rfl⟩) hHeld ?_
      try simp only [Act.put, List.setIfInBounds_toArray, List.set_cons_zero, List.set_cons_succ]
      refine take_d 48 (i := 7) (v := .int .i64 (k : Int)) rfl (by kernel_rfl) (by kernel_rfl) (by kernel_rfl) (by kernel_rfl) (fun _ _ _ h => h) (Or.inl ⟨by kernel_rfl, fun w' hS => exec_move _ rfl _ rfl⟩) hHeld ?_
      try simp only [Act.put, List.setIfInBounds_toArray, List.set_cons_zero, List.set_cons_succ]
      refine take_d 49 (i := 8) (v := sliced A5 k i c5 1) rfl (by kernel_rfl) (by kernel_rfl) (by kernel_rfl) (by kernel_rfl) (fun _ _ _ h => h) (Or.inl ⟨by kernel_rfl, fun w' hS => exec_slice_from 53 3 1 Tryd.underlying53 size_int _ _ rfl A5 i c5 k rfl rfl hki⟩) hHeld ?_
      try simp only [Act.put, List.setIfInBounds_toArray, List.set_cons_zero, List.set_cons_succ]
      refine wpAnyH_ready (rs := [5]) (by kernel_rfl) (by simp) (AllReadyH.cons rfl (fun K hK => ?_) AllReadyH.nil)
      rw [if_pos (by kernel_rfl)]
      refine wp_lit_int53 46 rfl _ rfl (i : Int) rfl ?_
      intro wl hbl hbb
      have HL := hide (own_of_blk (base := ws.heap.size) (size := 1) (n := 1) hbl hHeld.size rfl (by decide))
      have HX := hide (hHeld.trans (hbb.mono hHeld.size))
      clear hbl hbb
      refine hK.out _ _ HX.out (fun hHeld => ?_)
      clear HX hK K
      try simp only [Act.put, List.setIfInBounds_toArray, List.set_cons_zero, List.set_cons_succ]
      refine wpAnyH_ready (rs := [9]) (by kernel_rfl) (by simp) (AllReadyH.cons rfl (fun K hK => ?_) AllReadyH.nil)
      rw [if_pos (by kernel_rfl)]
      refine wp_append_rdD _ 50 rfl _ _ _ rfl ws.heap.size 3 1 8 el_int53 _ 1 ([Value.int .i64 (i : Int)]) rfl HL.out ws.heap.size _ (i - k) _ rfl (Rd.cut (H5.out.below hHeld) k i c5 hki (Nat.le_refl _) hc51 (Nat.le_refl _)) (ONE5.out k (i - k)) (by omega) hHeld.size ?_
      intro v50 w50 ho50 hg50 _
      have HO50 := hide ho50
      have HX := hide (hHeld.grown hg50 hHeld.size (own_base HL.out))
      clear ho50 hg50 HL
      refine hK.out _ _ HX.out (fun hHeld => ?_)
      clear HX hK K
      try simp only [Act.put, List.setIfInBounds_toArray, List.set_cons_zero, List.set_cons_succ]
      refine wpAnyH_ready (rs := [10]) (by kernel_rfl) (by simp) (AllReadyH.cons rfl (fun K hK => ?_) AllReadyH.nil)
      rw [if_pos (by kernel_rfl)]
      refine wp_append_fullD' 51 rfl _ _ 53 rfl 3 1 8 el_int53 k _ _ ws.heap.size rfl (Rd.cut (H5.out.below hHeld) 0 k k (Nat.zero_le _) hki (Nat.le_refl _) (by omega)) _ v50 (1 + (i - k)) _ rfl (Rd.of_own HO50.out) (ONE5B.out (i - k) k) (by omega) (by omega) ?_
      intro v51 w51 ho51 hb51
      have HO51 := hide ho51
      have HX := hide (hHeld.trans (hb51.mono hHeld.size))
      clear ho51 hb51 HO50
      refine hK.out _ _ HX.out (fun hHeld => ?_)
      clear HX hK K
      try simp only [Act.put, List.setIfInBounds_toArray, List.set_cons_zero, List.set_cons_succ]
      refine take_d 5 (i := 11) (v := v51) rfl (by kernel_rfl) (by kernel_rfl) (by kernel_rfl) (by kernel_rfl) (fun _ _ _ h => h) (Or.inl ⟨by kernel_rfl, fun w' hS => exec_assign _ rfl _ rfl⟩) hHeld ?_
      try simp only [Act.put, List.setIfInBounds_toArray, List.set_cons_zero, List.set_cons_succ]
      refine wpAnyH_done (by kernel_rfl) ?_ _
      have HI5 := hide (ins_ints l i k RES HLL.out HPK.out)
      rw [HI5.out, show k + (1 + (i - k)) = i + 1 by omega] at HO51
      have H5N := hide (Rd.of_own HO51.out)
      replace H6 := hide ((H6.out.below hHeld).more hHeld.size)
      replace HGH := hide (HGH.out.below hHeld HGH.out.lt)
      have hbw3 := HK0.out.lt
      replace HK0 := hide (HK0.out.below hHeld HK0.out.lt)
      have HW2 := hide (HW.out.trans (hHeld.mono (by omega)))
      replace HW := HW2
      clear HW2 hHeld HO51 H5 HI5
      obtain ⟨A7, c7, rfl, _, _⟩ := H5N.out.shape
      rename World => wt
      go_upto_region 11 with fail
      refine wp_region_held_drew (S := fun w' => Below wt.heap.size wt w') (by kernel_rfl) (Below.refl _ _).drew (fun hHeld => ?_)
      refine take_d 52 (i := 0) (v := .slice A6 i c6) rfl (by kernel_rfl) (by kernel_rfl) (by kernel_rfl) (by kernel_rfl) (fun _ _ _ h => h) (Or.inl ⟨by kernel_rfl, fun w' hS => exec_move _ rfl _ rfl⟩) hHeld ?_
      try simp only [Act.put, List.setIfInBounds_toArray, List.set_cons_zero, List.set_cons_succ]
      refine take_d 53 (i := 1) (v := .int .i64 (k : Int)) rfl (by kernel_rfl) (by kernel_rfl) (by kernel_rfl) (by kernel_rfl) (fun _ _ _ h => h) (Or.inl ⟨by kernel_rfl, fun w' hS => exec_move _ rfl _ rfl⟩) hHeld ?_
      try simp only [Act.put, List.setIfInBounds_toArray, List.set_cons_zero, List.set_cons_succ]
      refine take_d 54 (i := 2) (v := .int .i64 (k : Int)) rfl (by kernel_rfl) (by kernel_rfl) (by kernel_rfl) (by kernel_rfl) (fun _ _ _ h => h) (Or.inl ⟨by kernel_rfl, fun w' hS => exec_move _ rfl _ rfl⟩) hHeld ?_
      try simp only [Act.put, List.setIfInBounds_toArray, List.set_cons_zero, List.set_cons_succ]
      refine take_d 55 (i := 3) (v := sliced A6 0 k k 32) rfl (by kernel_rfl) (by kernel_rfl) (by kernel_rfl) (by kernel_rfl) (fun _ _ _ h => h) (Or.inl ⟨by kernel_rfl, fun w' hS => exec_slice_full 87 25 32 Tryd.underlying87 size_hash _ _ _ rfl A6 i c6 k rfl rfl rfl (by omega)⟩) hHeld ?_
      try simp only [Act.put, List.setIfInBounds_toArray, List.set_cons_zero, List.set_cons_succ]
      refine take_d 56 (i := 4) (v := .agg (u8s RES).toArray) rfl (by kernel_rfl) (by kernel_rfl) (by kernel_rfl) (by kernel_rfl) (fun _ _ _ h => h) (Or.inl ⟨by kernel_rfl, fun w' hS => exec_load_arr _ _ rfl gh 0 rfl _ (u8s RES) (blk_range (HGH.out.below hS HGH.out.lt) 0 _ (fun j u hu => by rw [Nat.zero_add]; exact hu)) Tryd.underlying25 rfl (by rw [u8s_len, HRL.out.1]; exact size_hash)⟩) hHeld ?_
      try simp only [Act.put, List.setIfInBounds_toArray, List.set_cons_zero, List.set_cons_succ]
      refine take_d 58 (i := 6) (v := .slice A6 i c6) rfl (by kernel_rfl) (by kernel_rfl) (by kernel_rfl) (by kernel_rfl) (fun _ _ _ h => h) (Or.inl ⟨by kernel_rfl, fun w' hS => exec_move _ rfl _ rfl⟩) hHeld ?_
      try simp only [Act.put, List.setIfInBounds_toArray, List.set_cons_zero, List.set_cons_succ]
      refine take_d 59 (i := 7) (v := .int .i64 (k : Int)) rfl (by kernel_rfl) (by kernel_rfl) (by kernel_rfl) (by kernel_rfl) (fun _ _ _ h => h) (Or.inl ⟨by kernel_rfl, fun w' hS => exec_move _ rfl _ rfl⟩) hHeld ?_
      try simp only [Act.put, List.setIfInBounds_toArray, List.set_cons_zero, List.set_cons_succ]
      refine take_d 60 (i := 8) (v := sliced A6 k i c6 32) rfl (by kernel_rfl) (by kernel_rfl) (by kernel_rfl) (by kernel_rfl) (fun _ _ _ h => h) (Or.inl ⟨by kernel_rfl, fun w' hS => exec_slice_from 87 25 32 Tryd.underlying87 size_hash _ _ rfl A6 i c6 k rfl rfl hki⟩) hHeld ?_
      try simp only [Act.put, List.setIfInBounds_toArray, List.set_cons_zero, List.set_cons_succ]
      refine wpAnyH_ready (rs := [5]) (by kernel_rfl) (by simp) (AllReadyH.cons rfl (fun K hK => ?_) AllReadyH.nil)
      rw [if_pos (by kernel_rfl)]
      refine wp_lit_hash87 57 rfl _ rfl RES HRL.out.1 rfl ?_
      intro wl hbl hbb
      have HL := hide (own_of_blk (base := wt.heap.size) (size := 32) (n := 1) hbl hHeld.size (by rw [u8s_len, HRL.out.1]) (by decide))
      have HX := hide (hHeld.trans (hbb.mono hHeld.size))
      clear hbl hbb
      refine hK.out _ _ HX.out (fun hHeld => ?_)
      clear HX hK K
      try simp only [Act.put, List.setIfInBounds_toArray, List.set_cons_zero, List.set_cons_succ]
      refine wpAnyH_ready (rs := [9]) (by kernel_rfl) (by simp) (AllReadyH.cons rfl (fun K hK => ?_) AllReadyH.nil)
      rw [if_pos (by kernel_rfl)]
      refine wp_append_rdD _ 61 rfl _ _ _ rfl wt.heap.size 25 32 32 el_hash87 _ 1 (u8s RES) rfl HL.out wt.heap.size _ (i - k) _ rfl (Rd.cut (H6.out.below hHeld) k i c6 hki (Nat.le_refl _) hc61 (Nat.le_refl _)) (ONE6.out k (i - k)) (by omega) hHeld.size ?_
      intro v50 w50 ho50 hg50 _
      have HO50 := hide ho50
      have HX := hide (hHeld.grown hg50 hHeld.size (own_base HL.out))
      clear ho50 hg50 HL
      refine hK.out _ _ HX.out (fun hHeld => ?_)
      clear HX hK K
      try simp only [Act.put, List.setIfInBounds_toArray, List.set_cons_zero, List.set_cons_succ]
      refine wpAnyH_ready (rs := [10]) (by kernel_rfl) (by simp) (AllReadyH.cons rfl (fun K hK => ?_) AllReadyH.nil)
      rw [if_pos (by kernel_rfl)]
      refine wp_append_fullD' 62 rfl _ _ 87 rfl 25 32 32 el_hash87 k _ _ wt.heap.size rfl (Rd.cut (H6.out.below hHeld) 0 k k (Nat.zero_le _) hki (Nat.le_refl _) (by omega)) _ v50 (1 + (i - k)) _ rfl (Rd.of_own HO50.out) (ONE6B.out (i - k) k) (by omega) (by omega) ?_
      intro v51 w51 ho51 hb51
      have HO51 := hide ho51
      have HX := hide (hHeld.trans (hb51.mono hHeld.size))
      clear ho51 hb51 HO50
      refine hK.out _ _ HX.out (fun hHeld => ?_)
      clear HX hK K
      try simp only [Act.put, List.setIfInBounds_toArray, List.set_cons_zero, List.set_cons_succ]
      refine take_d 6 (i := 11) (v := v51) rfl (by kernel_rfl) (by kernel_rfl) (by kernel_rfl) (by kernel_rfl) (fun _ _ _ h => h) (Or.inl ⟨by kernel_rfl, fun w' hS => exec_assign _ rfl _ rfl⟩) hHeld ?_
      try simp only [Act.put, List.setIfInBounds_toArray, List.set_cons_zero, List.set_cons_succ]
      refine wpAnyH_done (by kernel_rfl) ?_ _
      have HI6 := hide (ins_hashes l HLW.out i k RES HLL.out HPK.out)
      rw [HI6.out, show k + (1 + (i - k)) = i + 1 by omega] at HO51
      have H6N := hide (Rd.of_own HO51.out)
      have H5M := hide ((H5N.out.below hHeld).more hHeld.size)
      have hbw4 := HK0.out.lt
      replace HK0 := hide (HK0.out.below hHeld HK0.out.lt)
      have HW2 := hide (HW.out.trans (hHeld.mono (by omega)))
      have HON := hide (show Heap.ordT (ordH idx) (i + 1) = Heap.insT l ((i : Int), RES) by rw [Heap.ordT, HLE.out, HRES0.out])
      clear hHeld HO51 HI6 HW H6 H5N HGH
      go_wp2_with fail
      go_roundw
      case measure => simp [intOf]; omega
      case rel =>
        refine ⟨i + 1, by go_num, by omega, ?_, ?_, HK0.out, HW2.out⟩
        · rw [HON.out]; exact H5M.out
        · rw [HON.out]; exact H6N.out
    · obtain rfl : i = m := by omega
      have HFIN := hide (show Ints wo wo.heap.size _ ((Heap.ordT (ordH idx) i).map Prod.fst) from by
        unfold Ints
        rw [List.length_map, Heap.ordT_len]
        exact H5.out)
      obtain ⟨A5, c5, rfl, _, _⟩ := H5.out.shape
      clear H5 H6 HK0 HPN
      by_cases hin : (i : Int) < n
      · have hi8 : ¬ (i : Int) < 8 := fun h => hlt ((HMI.out i).2 ⟨hin, h⟩)
        clear hlt
        go_wp2_with go_skip
        go_ret
        exact ⟨_, rfl, HFIN.out, HW.out⟩
      · clear hlt
        go_wp2_with go_skip
        go_ret
        exact ⟨_, rfl, HFIN.out, HW.out⟩
end Go.Proofs.YtgjepahhbecljaaDoor

namespace Go.Proofs.YtgjepahhbecljaaDoor
open Go Go.RowKit
set_option maxRecDepth 100000
set_option maxHeartbeats 1000000 in
theorem same_ints (va vb : Value) (ps qs : List Int) (w : World) (B : Nat) (ha : Ints w B va ps) (hb : Ints w B vb qs) (hB : B ≤ w.heap.size) :
    Calls Tryd.prog 47 #[va, vb] w fun e w' => e = .returned (.bool (decide (ps = qs))) ∧ Below w.heap.size w w' := by
  obtain ⟨A, c, rfl, h1, h2, h3⟩ := ha.open_
  obtain ⟨A', c', rfl, h1', h2', h3'⟩ := hb.open_
  unfold maxLen at h2 h2'
  have H3 := hide h3
  have H3' := hide h3'
  clear h3 h3' ha hb
  by_cases hl : ps.length = qs.length
  · have hl' : ((ps.length : Int) != (qs.length : Int)) = false := by simp [hl]
    have HL := hide hl
    have hle : ps.length ≤ qs.length := by omega
    have hge : qs.length ≤ ps.length := by omega
    clear hl
    go_enter Tryd.func47, Tryd.ntmps47
    go_wp2_with fail
    go_loopw [5] (fun i wr => ∃ k : Nat, k ≤ ps.length ∧ i = .int .i64 k ∧ ps.take k = qs.take k ∧ Below w.heap.size w wr) (fun i _ => ps.length - (intOf i).toNat)
    case atStart => exact ⟨0, Nat.zero_le _, rfl, rfl, Below.refl _ _⟩
    case round =>
      obtain ⟨k, hk, rfl, heq, hbel⟩ := hrel
      have HE := hide heq
      have HB := hide hbel
      clear heq hbel
      by_cases hkt : k < ps.length
      · have hkt' : k < qs.length := by omega
        obtain ⟨b, o, rfl, hb, hc⟩ := H3.out (by omega)
        obtain ⟨b', o', rfl, hb', hc'⟩ := H3'.out (by omega)
        have hc1 := (HB.out.cell (p := ⟨b, o + k, none⟩) (by simp; omega)).trans (hc k hkt)
        have hc3 := (HB.out.cell (p := ⟨b', o' + k, none⟩) (by simp; omega)).trans (hc' k hkt')
        clear hc hc'
        obtain ⟨x, HX⟩ : ∃ x, Hid (ps[k] = x) := ⟨_, hide rfl⟩
        obtain ⟨y, HY⟩ : ∃ x, Hid (qs[k] = x) := ⟨_, hide rfl⟩
        rw [HX.out] at hc1
        rw [HY.out] at hc3
        by_cases hpq : x = y
        · have hne : (x != y) = false := by simp [hpq]
          have HPQ := hide hpq
          clear hpq
          go_wp2_with fail
          go_quiet (fail)
          go_wp2_with fail
          go_roundw
          case rel => exact ⟨k + 1, by omega, by go_num, by rw [List.take_succ_eq_append_getElem hkt, List.take_succ_eq_append_getElem hkt', HE.out, HX.out, HY.out, HPQ.out], ⟨HB.out.os, HB.out.tape, HB.out.output, HB.out.size, HB.out.block⟩⟩
          case measure => simp [intOf]; omega
        · have hne : (x != y) = true := by simp [hpq]
          have HPQ := hide (show ps ≠ qs from fun e => by
            subst e
            exact hpq (HX.out.symm.trans HY.out))
          clear hpq
          go_wp2_with fail
          go_quiet (fail)
          go_wp2_with fail
          go_ret
          exact ⟨by rw [decide_eq_false HPQ.out]; rfl, ⟨HB.out.os, HB.out.tape, HB.out.output, HB.out.size, HB.out.block⟩⟩
      · have hke : k = ps.length := by omega
        have HEQ := hide (show ps = qs by
          have h := HE.out
          rwa [List.take_of_length_le (by omega), List.take_of_length_le (by omega)] at h)
        have hkt'' : ¬ (k : Int) < (ps.length : Int) := by omega
        clear hke
        go_wp2_with fail
        go_ret
        exact ⟨by rw [decide_eq_true HEQ.out]; rfl, HB.out⟩
  · have hl' : ((ps.length : Int) != (qs.length : Int)) = true := by simp; omega
    have HNE := hide (show ps ≠ qs from fun e => hl (by rw [e]))
    clear hl
    go_enter Tryd.func47, Tryd.ntmps47
    go_wp2_with fail
    go_ret
    exact ⟨by rw [decide_eq_false HNE.out]; rfl, Below.refl _ _⟩
end Go.Proofs.YtgjepahhbecljaaDoor
