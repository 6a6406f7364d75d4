/- '==' and '!=' of two arrays of integers. No condition.
A test built of its parts; hashes compared; what an operation yields, inside a walk. No condition.
Are two tests one? No condition. -/
import Derived.Test.YtfinfkodjkfibaaDoorBase
import Derived.Test.YtfinfkodjkfibaaDoorReqAll
import Derived.Test.YtfinfkodjkfibaaDoorHeldAll
import Derived.Test.YtfinfkodjkfibaaDoorSym
import Derived.Laws.StructEq
namespace Go.Proofs.YtfinfkodjkfibaaDoor
open Go Go.RowKit

section
variable {P : Program} (w : World)

theorem run_isAgg_int {e : TypeId} {k : IntKind} (he : P.underlying e = some (.int k)) : (isAgg e).run P w = .ok false w := by
  simp [isAgg, run_underlying he]

theorem arr_part {e : TypeId} {k : IntKind} {i : TypeInfo} (he : P.underlying e = some (.int k)) (hi : P.info? e = some i) (hs : i.size = 1) (xs : List Int) (j : Nat) (hx : j < xs.length) :
    (part e (xs.map (Value.int k)).toArray j).run P w = .ok (.int k xs[j]) w := by
  simp [part, sizeOf, typeInfo, hi, hs, Result.andThen, hx, run_isAgg_int w he]

theorem run_forIn_all (p : Nat → Bool) (f : Nat → Option Bool × Unit → Sem (ForInStep (Option Bool × Unit))) : ∀ (js : List Nat),
    (∀ j ∈ js, ∀ r, (f j r).run P w = .ok (if p j = true then .yield (none, ()) else .done (some false, ())) w) → (forIn js (none, ()) f).run P w = .ok (if js.all p = true then (none, ()) else (some false, ())) w := by
  intro js
  induction js with
  | nil => intro _; simp
  | cons j js ih =>
    intro h
    have h1 := h j (List.mem_cons_self ..) (none, ())
    have h2 := ih fun j hj => h j (List.mem_cons_of_mem _ hj)
    simp only [List.forIn_cons, Sem.run_bind, h1, Result.andThen_ok]
    rcases hp : p j with _ | _
    · simp [hp]
    · simp only [if_true, h2, List.all_cons, hp, Bool.true_and]

theorem run_equalIn_arr (d : Nat) {t e : TypeId} {len : Nat} {k : IntKind} {i : TypeInfo} (ht : P.underlying t = some (.array len e)) (he : P.underlying e = some (.int k)) (hi : P.info? e = some i) (hs : i.size = 1)
    (xs ys : List Int) (hx : xs.length = len) (hy : ys.length = len) :
    (Op.equalIn (d + 2) t (.agg (xs.map (Value.int k)).toArray) (.agg (ys.map (Value.int k)).toArray)).run P w = .ok (decide (xs = ys)) w := by
  have hszl : Std.Legacy.Range.size [:len] = len := by simp [Std.Legacy.Range.size]
  have hsz : (sizeOf e).run P w = .ok 1 w := by simp [sizeOf, typeInfo, hi, hs]
  unfold Op.equalIn
  simp only [Sem.run_bind, run_underlying ht, Result.andThen_ok, hsz, Std.Legacy.Range.forIn_eq_forIn_range', hszl]
  rw [run_forIn_all w (fun j => xs.getD j 0 == ys.getD j 0)]
  · have : ((List.range' 0 len 1).all fun j => xs.getD j 0 == ys.getD j 0) = decide (xs = ys) := by
      rw [Bool.eq_iff_iff, List.all_eq_true, decide_eq_true_iff]
      constructor
      · intro h
        refine List.ext_getElem (by omega) fun j h1 h2 => ?_
        have := h j (List.mem_range'_1.2 ⟨by omega, by omega⟩)
        rw [List.getD_eq_getElem?_getD, List.getD_eq_getElem?_getD, List.getElem?_eq_getElem h1, List.getElem?_eq_getElem h2] at this
        simpa using this
      · rintro rfl j _
        simp
    rw [this]
    by_cases h : xs = ys <;> simp [h]
  · intro j hj r
    obtain ⟨_, hj⟩ := List.mem_range'_1.1 hj
    have h1 : j < xs.length := by omega
    have h2 : j < ys.length := by omega
    rw [List.getD_eq_getElem?_getD, List.getD_eq_getElem?_getD, List.getElem?_eq_getElem h1, List.getElem?_eq_getElem h2]
    simp only [Nat.mul_one, Sem.run_bind, arr_part w he hi hs xs j h1, arr_part w he hi hs ys j h2, Result.andThen_ok, run_equalIn_int w d e k k _ _ he, Option.getD_some]
    by_cases h : xs[j] = ys[j] <;> simp [h]

theorem run_eql_arr {t e : TypeId} {len : Nat} {k : IntKind} (ht : P.underlying t = some (.array len e)) (he : P.underlying e = some (.int k)) (hi : (P.info? e).map (·.size) = some 1)
    (xs ys : List Int) (hx : xs.length = len) (hy : ys.length = len) :
    (binOp .eql t (.agg (xs.map (Value.int k)).toArray) (.agg (ys.map (Value.int k)).toArray)).run P w = .ok (.bool (decide (xs = ys))) w := by
  obtain ⟨i, hi, hs⟩ := Option.map_eq_some_iff.1 hi
  simp only [binOp]
  simp [Op.equal, Op.maxDepth, run_equalIn_arr w 9998 ht he hi hs xs ys hx hy]
theorem run_neq_arr {t e : TypeId} {len : Nat} {k : IntKind} (ht : P.underlying t = some (.array len e)) (he : P.underlying e = some (.int k)) (hi : (P.info? e).map (·.size) = some 1)
    (xs ys : List Int) (hx : xs.length = len) (hy : ys.length = len) :
    (binOp .neq t (.agg (xs.map (Value.int k)).toArray) (.agg (ys.map (Value.int k)).toArray)).run P w = .ok (.bool (!decide (xs = ys))) w := by
  obtain ⟨i, hi, hs⟩ := Option.map_eq_some_iff.1 hi
  simp only [binOp]
  simp [Op.equal, Op.maxDepth, run_equalIn_arr w 9998 ht he hi hs xs ys hx hy]
end
end Go.Proofs.YtfinfkodjkfibaaDoor

namespace Go.Proofs.YtfinfkodjkfibaaDoor
open Go Go.RowKit
set_option maxRecDepth 100000
theorem built_tst34 (n : Int) (q : Bool) (a0 a1 a2 a3 a4 a5 a6 a7 a8 a9 a10 a11 a12 a13 a14 a15 a16 a17 a18 a19 a20 a21 a22 a23 a24 a25 a26 a27 a28 a29 a30 a31 : Int) : Tryd.prog.built 60 [(0, .int .i64 n), (1, .bool q), (2, .agg (u8s [a0, a1, a2, a3, a4, a5, a6, a7, a8, a9, a10, a11, a12, a13, a14, a15, a16, a17, a18, a19, a20, a21, a22, a23, a24, a25, a26, a27, a28, a29, a30, a31]).toArray)] = some (tstC ⟨n, q, [a0, a1, a2, a3, a4, a5, a6, a7, a8, a9, a10, a11, a12, a13, a14, a15, a16, a17, a18, a19, a20, a21, a22, a23, a24, a25, a26, a27, a28, a29, a30, a31]⟩).toArray := by kernel_rfl
theorem built_tst (n : Int) (q : Bool) (x : List Int) (hx : x.length = 32) : Tryd.prog.built 60 [(0, .int .i64 n), (1, .bool q), (2, .agg (u8s x).toArray)] = some (tstC ⟨n, q, x⟩).toArray := by
  match x, hx with
  | [a0, a1, a2, a3, a4, a5, a6, a7, a8, a9, a10, a11, a12, a13, a14, a15, a16, a17, a18, a19, a20, a21, a22, a23, a24, a25, a26, a27, a28, a29, a30, a31], _ => exact built_tst34 n q a0 a1 a2 a3 a4 a5 a6 a7 a8 a9 a10 a11 a12 a13 a14 a15 a16 a17 a18 a19 a20 a21 a22 a23 a24 a25 a26 a27 a28 a29 a30 a31
theorem built_hash0 : Tryd.prog.built 58 [] = some (u8s (List.replicate 32 0)).toArray := by kernel_rfl
section
variable {ops : Array Oper} {rest : List Oper} {o : Oper} {a : Act} {w : World} {Q : Exit → Act → World → Prop}
theorem wpList_val (hw : Region.wanted o (yielded ops a.tmps) = true) {v : Value} (h0 : (execOp a.eval o).run Tryd.prog w = .ok (.value v) w) (h : wpList Tryd.prog ops Q rest (a.put o.dst v) w) : wpList Tryd.prog ops Q (o :: rest) a w :=
  wpList_go hw fun _ hK => wp_value v h0 (hK _ _ h)
theorem exec_neq_hash (x y : Operand) (t' : TypeId) (ho : o.op = .binOp .neq 58 x y t') (xs ys : List Int) (hx : a.eval x = .agg (u8s xs).toArray) (hy : a.eval y = .agg (u8s ys).toArray)
    (hxl : xs.length = 32) (hyl : ys.length = 32) (b : Bool) (hb : (!decide (xs = ys)) = b) : (execOp a.eval o).run Tryd.prog w = .ok (.value (.bool b)) w := by
  unfold execOp
  have := run_neq_arr (P := Tryd.prog) w Tryd.underlying58 Tryd.underlying5 (by kernel_rfl) xs ys hxl hyl
  rw [hb] at this
  simp only [ho, hx, hy, u8s, Sem.run_bind, run_eqGuard_agg w _ _ _ _ _ _ (show Tryd.prog.eqGuardType Tryd.prog.depth 58 = false by kernel_rfl), this, Result.andThen_ok, Sem.run_pure]
end
end Go.Proofs.YtfinfkodjkfibaaDoor

namespace Go.Proofs.YtfinfkodjkfibaaDoor
open Go Go.RowKit
set_option maxRecDepth 100000
def tstEq (a b : Msg.Tst) : Bool := (a.num == b.num) && ((a.absent == b.absent) && decide (a.want = b.want))
theorem tstEq_iff (a b : Msg.Tst) : tstEq a b = true ↔ a = b := by
  obtain ⟨a1, a2, a3⟩ := a
  obtain ⟨b1, b2, b3⟩ := b
  simp [tstEq]
theorem fields_tst : (Tryd.prog.fieldsOf 60).toList.map (fun f => (decide (f.name = "_"), f.type, f.offset)) = [(false, 3, 0), (false, 4, 1), (false, 58, 2)] := by kernel_rfl
theorem tst_struct : Tryd.prog.underlying 60 = some (.struct (Tryd.prog.fieldsOf 60)) := by kernel_rfl
theorem part_num (w : World) (t : Msg.Tst) : (part 3 (tstC t).toArray 0).run Tryd.prog w = .ok (.int .i64 t.num) w := by
  have hag : ∀ w, (isAgg 3).run Tryd.prog w = .ok false w := fun w => by kernel_rfl
  simp [part, Sem.run_bind, hag, tstC]
theorem part_abs (w : World) (t : Msg.Tst) : (part 4 (tstC t).toArray 1).run Tryd.prog w = .ok (.bool t.absent) w := by
  have hag : ∀ w, (isAgg 4).run Tryd.prog w = .ok false w := fun w => by kernel_rfl
  simp [part, Sem.run_bind, hag, tstC]
theorem part_want (w : World) (t : Msg.Tst) (h : t.want.length = 32) : (part 58 (tstC t).toArray 2).run Tryd.prog w = .ok (.agg (u8s t.want).toArray) w := by
  have hag : ∀ w, (isAgg 58).run Tryd.prog w = .ok true w := fun w => by kernel_rfl
  have hsz : ∀ w, (sizeOf 58).run Tryd.prog w = .ok 32 w := fun w => by kernel_rfl
  have e : (tstC t).toArray.extract 2 (2 + 32) = (u8s t.want).toArray := by
    unfold tstC
    rw [List.extract_toArray, List.extract_eq_take_drop]
    simp only [List.drop_succ_cons, List.drop_zero]
    rw [List.take_of_length_le (by rw [u8s_len, h]; omega)]
  simp only [part, Sem.run_bind, hag, Result.andThen_ok, if_true, hsz, Sem.run_pure, e]
theorem three_of_map {α β : Type} {l : List α} {g : α → β} {a b c : β} (h : l.map g = [a, b, c]) : ∃ x y z, l = [x, y, z] ∧ g x = a ∧ g y = b ∧ g z = c := by
  rcases l with _ | ⟨x, l⟩
  · cases h
  rcases l with _ | ⟨y, l⟩
  · cases h
  rcases l with _ | ⟨z, l⟩
  · cases h
  rcases l with _ | ⟨u, l⟩
  · simp at h; exact ⟨x, y, z, rfl, h⟩
  · simp at h
theorem run_equalIn_tst (w : World) (d : Nat) (a b : Msg.Tst) (ha : a.want.length = 32) (hb : b.want.length = 32) :
    (Op.equalIn (d + 3) 60 (.agg (tstC a).toArray) (.agg (tstC b).toArray)).run Tryd.prog w = .ok (tstEq a b) w := by
  obtain ⟨i8, hi8, hs8⟩ := Option.map_eq_some_iff.1 (show (Tryd.prog.info? 5).map (·.size) = some 1 by kernel_rfl)
  have hf := fields_tst
  rw [run_equalIn_struct w (d + 2) _ _ _ tst_struct (by kernel_rfl)]
  obtain ⟨f0, f1, f2, hl, h0, h1, h2⟩ := three_of_map hf
  simp only [Prod.mk.injEq] at h0 h1 h2
  obtain ⟨n0, t0, o0⟩ := h0
  obtain ⟨n1, t1, o1⟩ := h1
  obtain ⟨n2, t2, o2⟩ := h2
  have e58 := run_equalIn_arr (P := Tryd.prog) w d Tryd.underlying58 Tryd.underlying5 hi8 hs8 a.want b.want ha hb
  have e3 := run_equalIn_int (P := Tryd.prog) w (d + 1) 3 .i64 .i64 a.num b.num Tryd.underlying3
  have e4 := run_equalIn_bool' (P := Tryd.prog) w (d + 1) 4 a.absent b.absent Tryd.underlying4
  have pa := part_want w a ha
  have pb := part_want w b hb
  unfold u8s at pa pb
  replace n0 := of_decide_eq_false n0
  replace n1 := of_decide_eq_false n1
  replace n2 := of_decide_eq_false n2
  rw [hl]
  unfold tstEq
  rcases hq1 : (a.num == b.num) with _ | _
  · rw [hq1] at e3
    simp [Op.eqFields, n0, t0, o0, Sem.run_bind, part_num, e3]
  · rw [hq1] at e3
    rcases hq2 : (a.absent == b.absent) with _ | _
    · rw [hq2] at e4
      simp [Op.eqFields, n0, t0, o0, n1, t1, o1, Sem.run_bind, part_num, part_abs, e3, e4]
    · rw [hq2] at e4
      have h2 : (Op.eqFields (d + 2) (tstC a).toArray (tstC b).toArray [f2]).run Tryd.prog w = .ok (decide (a.want = b.want)) w := by
        unfold Op.eqFields
        rw [if_pos n2, t2, o2]
        rw [Sem.run_bind, pa, Result.andThen_ok, Sem.run_bind, pb, Result.andThen_ok, Sem.run_bind, e58, Result.andThen_ok]
        rcases decide (a.want = b.want) with _ | _
        · rw [if_pos (show (!false) = true from rfl), Sem.run_pure]
        · rw [if_neg (by decide)]
          unfold Op.eqFields
          rw [Sem.run_pure]
      have h1 : (Op.eqFields (d + 2) (tstC a).toArray (tstC b).toArray [f1, f2]).run Tryd.prog w = .ok (decide (a.want = b.want)) w := by
        unfold Op.eqFields
        rw [if_pos n1, t1, o1]
        rw [Sem.run_bind, part_abs, Result.andThen_ok, Sem.run_bind, part_abs, Result.andThen_ok, Sem.run_bind, e4, Result.andThen_ok, if_neg (by decide), h2]
      have h0 : (Op.eqFields (d + 2) (tstC a).toArray (tstC b).toArray [f0, f1, f2]).run Tryd.prog w = .ok (decide (a.want = b.want)) w := by
        unfold Op.eqFields
        rw [if_pos n0, t0, o0]
        rw [Sem.run_bind, part_num, Result.andThen_ok, Sem.run_bind, part_num, Result.andThen_ok, Sem.run_bind, e3, Result.andThen_ok, if_neg (by decide), h1]
      rw [h0]
      simp only [Bool.true_and]
theorem run_neq_tst (w : World) (a b : Msg.Tst) (ha : a.want.length = 32) (hb : b.want.length = 32) :
    (binOp .neq 60 (.agg (tstC a).toArray) (.agg (tstC b).toArray)).run Tryd.prog w = .ok (.bool (!tstEq a b)) w := by
  simp only [binOp]
  simp [Op.equal, Op.maxDepth, run_equalIn_tst w 9997 a b ha hb]
section
variable {o : Oper} {a : Act} {w : World}
theorem exec_neq_tst (x y : Operand) (t' : TypeId) (ho : o.op = .binOp .neq 60 x y t') (p q : Msg.Tst) (hp : p.want.length = 32) (hq : q.want.length = 32) (hx : a.eval x = .agg (tstC p).toArray) (hy : a.eval y = .agg (tstC q).toArray) (r : Bool) (hr : (!tstEq p q) = r) : (execOp a.eval o).run Tryd.prog w = .ok (.value (.bool r)) w := by
  subst hr
  unfold execOp
  have := run_neq_tst w p q hp hq
  simp only [ho, hx, hy, Sem.run_bind, run_eqGuard_agg w _ _ _ _ _ _ (show Tryd.prog.eqGuardType Tryd.prog.depth 60 = false by kernel_rfl), this, Result.andThen_ok, Sem.run_pure]
end
end Go.Proofs.YtfinfkodjkfibaaDoor
