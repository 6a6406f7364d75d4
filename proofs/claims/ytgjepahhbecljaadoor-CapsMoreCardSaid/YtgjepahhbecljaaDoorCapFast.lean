/- A capability's fields inside a walk: one law for every load, one for every field's address. No condition. -/
import Derived.Test.YtgjepahhbecljaaDoorCapVal
import Derived.Test.YtgjepahhbecljaaDoorQuiet
namespace Go.Proofs.YtgjepahhbecljaaDoor
open Go Go.RowKit

/-- What a load of a field finds, by its type and its place. -/
def capAt (c : CapD) (lit : Value) (ty off : Nat) : Option Value :=
  if ty = 3 then (capInt c off).map (.int .i64)
  else if ty = 26 then (if off = 52 then some lit else none)
  else if ty = 23 then (if off = 1 then some (.agg (u8s c.key).toArray) else none)
  else if ty = 25 then (if off = 17 then some (.agg (u8s c.fp).toArray) else none)
  else if ty = 28 then (if off = 0 then some (capV c lit) else none)
  else none
section
variable {ops : Array Oper} {rest : List Oper} {o : Oper} {a : Act} {w : World} {Q : Exit → Act → World → Prop} {g : Nat} {c : CapD} {lit : Value}
theorem wpList_cap_load (ty : TypeId) (x : Operand) (ho : o.op = .load ty x) (off : Nat) (hx : a.eval x = .pointer (some ⟨g, off, none⟩)) (hw : Region.wanted o (yielded ops a.tmps) = true) (hB : CapB w g c lit)
    (v : Value) (hv : capAt c lit ty off = some v) (h : wpList Tryd.prog ops Q rest (a.put o.dst v) w) : wpList Tryd.prog ops Q (o :: rest) a w := by
  unfold capAt at hv
  split at hv
  · next e =>
    subst e
    obtain ⟨n, hn, rfl⟩ := Option.map_eq_some_iff.1 hv
    exact wpList_cap_int x ho off hx hw hB n hn h
  · split at hv
    · next e =>
      subst e
      split at hv
      · next e => subst e; injection hv with hv; subst hv; exact wpList_cap_lit x ho hx hw hB h
      · cases hv
    · split at hv
      · next e =>
        subst e
        split at hv
        · next e => subst e; injection hv with hv; subst hv; exact wpList_cap_key x ho hx hw hB h
        · cases hv
      · split at hv
        · next e =>
          subst e
          split at hv
          · next e => subst e; injection hv with hv; subst hv; exact wpList_cap_fp x ho hx hw hB h
          · cases hv
        · split at hv
          · next e =>
            subst e
            split at hv
            · next e => subst e; injection hv with hv; subst hv; exact wpList_cap_all x ho hx hw hB h
            · cases hv
          · cases hv
theorem wpList_cap_field (x : Operand) (k : Nat) (ho : o.op = .fieldAddr 28 x k) (g : Nat) (hx : a.eval x = .pointer (some ⟨g, 0, none⟩)) (hw : Region.wanted o (yielded ops a.tmps) = true) (off : Nat) (hk : [0, 1, 17, 49, 50, 51, 52][k]? = some off)
    (h : wpList Tryd.prog ops Q rest (a.put o.dst (.pointer (some ⟨g, off, none⟩))) w) : wpList Tryd.prog ops Q (o :: rest) a w :=
  wpList_go hw fun _ hK => wp_value _ (exec_field x k off ho g hx hk) (hK _ _ h)
end
end Go.Proofs.YtgjepahhbecljaaDoor
