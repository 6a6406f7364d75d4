/- '==' and '!=' of two arrays of integers. No condition. -/
import Derived.Test.YtgjepahhbecljaaDoorBase
namespace Go.Proofs.YtgjepahhbecljaaDoor
open Go Go.RowKit

section
variable {P : Program} (w : World)

theorem run_isAgg_int {e : TypeId} {k : IntKind} (he : P.underlying e = some (.int k)) : (isAgg e).run P w = .ok false w := by
  simp [isAgg, run_underlying he]

theorem arr_part {e : TypeId} {k : IntKind} {i : TypeInfo} (he : P.underlying e = some (.int k)) (hi : P.info? e = some i) (hs : i.size = 1) (xs : List Int) (j : Nat) (hx : j < xs.length) :
    (part e (xs.map (Value.int k)).toArray j).run P w = .ok (.int k xs[j]) w := by
  simp [part, sizeOf, typeInfo, hi, hs, Result.andThen, hx, run_isAgg_int w he]

theorem run_forIn_all (p : Nat → Bool) (f : Nat → Option Bool × Unit → Sem (ForInStep (Option Bool × Unit))) : ∀ (js : List Nat),
    (∀ j ∈ js, ∀ r, (f j r).run P w = .ok (if p j = true then .yield (none, ()) else .done (some false, ())) w) → (forIn js (none, ()) f).run P w = .ok (if js.all p = true then (none, ()) else (some false, ())) w := by
  intro js
  induction js with
  | nil => intro _; simp
  | cons j js ih =>
    intro h
    have h1 := h j (List.mem_cons_self ..) (none, ())
    have h2 := ih fun j hj => h j (List.mem_cons_of_mem _ hj)
    simp only [List.forIn_cons, Sem.run_bind, h1, Result.andThen_ok]
    rcases hp : p j with _ | _
    · simp [hp]
    · simp only [if_true, h2, List.all_cons, hp, Bool.true_and]

theorem run_equalIn_arr (d : Nat) {t e : TypeId} {len : Nat} {k : IntKind} {i : TypeInfo} (ht : P.underlying t = some (.array len e)) (he : P.underlying e = some (.int k)) (hi : P.info? e = some i) (hs : i.size = 1)
    (xs ys : List Int) (hx : xs.length = len) (hy : ys.length = len) :
    (Op.equalIn (d + 2) t (.agg (xs.map (Value.int k)).toArray) (.agg (ys.map (Value.int k)).toArray)).run P w = .ok (decide (xs = ys)) w := by
  have hszl : Std.Legacy.Range.size [:len] = len := by simp [Std.Legacy.Range.size]
  have hsz : (sizeOf e).run P w = .ok 1 w := by simp [sizeOf, typeInfo, hi, hs]
  unfold Op.equalIn
  simp only [Sem.run_bind, run_underlying ht, Result.andThen_ok, hsz, Std.Legacy.Range.forIn_eq_forIn_range', hszl]
  rw [run_forIn_all w (fun j => xs.getD j 0 == ys.getD j 0)]
  · have : ((List.range' 0 len 1).all fun j => xs.getD j 0 == ys.getD j 0) = decide (xs = ys) := by
      rw [Bool.eq_iff_iff, List.all_eq_true, decide_eq_true_iff]
      constructor
      · intro h
        refine List.ext_getElem (by omega) fun j h1 h2 => ?_
        have := h j (List.mem_range'_1.2 ⟨by omega, by omega⟩)
        rw [List.getD_eq_getElem?_getD, List.getD_eq_getElem?_getD, List.getElem?_eq_getElem h1, List.getElem?_eq_getElem h2] at this
        simpa using this
      · rintro rfl j _
        simp
    rw [this]
    by_cases h : xs = ys <;> simp [h]
  · intro j hj r
    obtain ⟨_, hj⟩ := List.mem_range'_1.1 hj
    have h1 : j < xs.length := by omega
    have h2 : j < ys.length := by omega
    rw [List.getD_eq_getElem?_getD, List.getD_eq_getElem?_getD, List.getElem?_eq_getElem h1, List.getElem?_eq_getElem h2]
    simp only [Nat.mul_one, Sem.run_bind, arr_part w he hi hs xs j h1, arr_part w he hi hs ys j h2, Result.andThen_ok, run_equalIn_int w d e k k _ _ he, Option.getD_some]
    by_cases h : xs[j] = ys[j] <;> simp [h]

theorem run_eql_arr {t e : TypeId} {len : Nat} {k : IntKind} (ht : P.underlying t = some (.array len e)) (he : P.underlying e = some (.int k)) (hi : (P.info? e).map (·.size) = some 1)
    (xs ys : List Int) (hx : xs.length = len) (hy : ys.length = len) :
    (binOp .eql t (.agg (xs.map (Value.int k)).toArray) (.agg (ys.map (Value.int k)).toArray)).run P w = .ok (.bool (decide (xs = ys))) w := by
  obtain ⟨i, hi, hs⟩ := Option.map_eq_some_iff.1 hi
  simp only [binOp]
  simp [Op.equal, Op.maxDepth, run_equalIn_arr w 9998 ht he hi hs xs ys hx hy]
theorem run_neq_arr {t e : TypeId} {len : Nat} {k : IntKind} (ht : P.underlying t = some (.array len e)) (he : P.underlying e = some (.int k)) (hi : (P.info? e).map (·.size) = some 1)
    (xs ys : List Int) (hx : xs.length = len) (hy : ys.length = len) :
    (binOp .neq t (.agg (xs.map (Value.int k)).toArray) (.agg (ys.map (Value.int k)).toArray)).run P w = .ok (.bool (!decide (xs = ys))) w := by
  obtain ⟨i, hi, hs⟩ := Option.map_eq_some_iff.1 hi
  simp only [binOp]
  simp [Op.equal, Op.maxDepth, run_equalIn_arr w 9998 ht he hi hs xs ys hx hy]
end
end Go.Proofs.YtgjepahhbecljaaDoor
