/- '==' of an array of arrays of integers with itself. No condition. -/
import Derived.Test.YtoicohcomjnnfaaArrEq
namespace Go.Proofs.Ytoicohcomjnnfaa
open Go Go.RowKit

section
variable {P : Program} (w : World)
theorem arr_part2 {e u : TypeId} {m : Nat} {k : IntKind} {i : TypeInfo} (he : P.underlying e = some (.array m u)) (hi : P.info? e = some i) (hs : i.size = m) (xs : List Int) (o : Nat) :
    (part e (xs.map (Value.int k)).toArray o).run P w = .ok (.agg (((xs.drop o).take m).map (Value.int k)).toArray) w := by
  have ha : (isAgg e).run P w = .ok true w := by simp [isAgg, run_underlying he]
  have hz : (sizeOf e).run P w = .ok m w := by simp [sizeOf, typeInfo, hi, hs]
  unfold part
  simp only [Sem.run_bind, ha, Result.andThen_ok, if_true, hz, Sem.run_pure]
  congr 2
  simp [List.map_drop, List.map_take, List.extract_eq_take_drop]

theorem run_equalIn_arr2_self {t e u : TypeId} {len m : Nat} {k : IntKind} (ht : P.underlying t = some (.array len e)) (he : P.underlying e = some (.array m u)) (hu : P.underlying u = some (.int k))
    (hi : (P.info? e).map (·.size) = some m) (hj : (P.info? u).map (·.size) = some 1) (xs : List Int) (hx : xs.length = len * m) :
    (Op.equalIn 10000 t (.agg (xs.map (Value.int k)).toArray) (.agg (xs.map (Value.int k)).toArray)).run P w = .ok true w := by
  obtain ⟨i, hi, hs⟩ := Option.map_eq_some_iff.1 hi
  obtain ⟨j, hj, hs1⟩ := Option.map_eq_some_iff.1 hj
  have hszl : Std.Legacy.Range.size [:len] = len := by simp [Std.Legacy.Range.size]
  have hsz : (sizeOf e).run P w = .ok m w := by simp [sizeOf, typeInfo, hi, hs]
  have key : (Op.equalIn (9997 + 3) t (.agg (xs.map (Value.int k)).toArray) (.agg (xs.map (Value.int k)).toArray)).run P w = .ok true w := by
    unfold Op.equalIn
    simp only [Sem.run_bind, run_underlying ht, Result.andThen_ok, hsz, Std.Legacy.Range.forIn_eq_forIn_range', hszl]
    rw [run_forIn_all w (fun _ => true)]
    · simp
    · intro r hr q
      obtain ⟨_, hr⟩ := List.mem_range'_1.1 hr
      have hl : ((xs.drop (r * m)).take m).length = m := by
        rw [List.length_take, List.length_drop, hx]
        have : (r + 1) * m ≤ len * m := Nat.mul_le_mul_right _ (by omega)
        rw [Nat.add_mul] at this
        omega
      simp only [Sem.run_bind, arr_part2 w he hi hs xs (r * m), Result.andThen_ok, run_equalIn_arr w 9997 he hu hj hs1 _ _ hl hl]
      simp
  exact key
end
end Go.Proofs.Ytoicohcomjnnfaa
