/- What an argument that can be read as data gives to a walk. No condition.
A slice of bytes that comes in. No condition.
An array of 16 bytes that comes in. No condition.
A capability that comes in: its cells as data. No condition.
One cell read and written inside a walk; an operation that yields a value. No condition.
'==' and '!=' of two arrays of integers. No condition. -/
import Derived.Test.YthdjgebbjogmiaaDoorRows
import Derived.Test.YthdjgebbjogmiaaDoorBase
import Derived.ProofKit
import Derived.OpenShut
import Derived.ShutString
import Derived.ChangeOld
import Derived.Test.YthdjgebbjogmiaaDoorJoin1
import Derived.Test.YthdjgebbjogmiaaDoorJoin5
import Derived.Test.YthdjgebbjogmiaaDoorJoin2
import Derived.Great.Ranges
import Derived.Laws.StructEq
set_option linter.unusedVariables false
set_option linter.unusedSimpArgs false
namespace Go.Proofs.YthdjgebbjogmiaaDoor
open Go Go.RowKit Go.ChangeShapes Go.WideShapes Go.ChangeAt
set_option maxRecDepth 100000

theorem own : ownKnob Tryd.prog.godebug = none := by kernel_rfl
theorem laidOut : laidOutB Tryd.prog = true := by kernel_rfl

/-- A number that an int64 can be. -/
def In64 (x : Int) : Prop := -9223372036854775808 ≤ x ∧ x ≤ 9223372036854775807
theorem in64_wf {x : Int} (h : (Lit.int .i64 x).wf = true) : In64 x := by
 have := bounds_i64 h
 exact ⟨by omega, by omega⟩

theorem add_off (b o i : Nat) : (⟨b, o, none⟩ : Addr).add i = ⟨b, o + i, none⟩ := by
 unfold Addr.add; split
 · rename_i h; subst h; rfl
 · rfl

/-- A slice that lies in memory, element by element. -/
theorem rd_mk {W : World} {a : Option Addr} {len cap : Nat} {f : Nat → Value} (hl : len ≤ cap) (hm : cap ≤ maxLen) (h : 0 < len → ∃ x, a = some x ∧ ∀ i, i < len → W.cell? (x.add i) = some (f i)) :
 Rd W W.heap.size 1 (.slice a len cap) len ((List.range len).map f) := by
 refine ⟨a, cap, rfl, hl, hm, by simp, fun hp => ?_⟩
 obtain ⟨x, rfl, hc⟩ := h hp
 obtain ⟨b, o, spot⟩ := x
 have h0 := hc 0 hp
 have hspot : spot = none := by simpa [Addr.add] using World.cell?_spot h0
 subst hspot
 refine ⟨b, o, rfl, ?_, fun j u hu => ?_⟩
 · rcases Nat.lt_or_ge b W.heap.size with h | h
   · exact h
   · rw [add_off] at h0
     unfold World.cell? at h0
     simp only at h0
     rw [Array.getElem?_eq_none h] at h0
     cases h0
 · rw [← add_off]
   obtain ⟨hj, rfl⟩ := List.getElem?_eq_some_iff.1 hu
   simp only [List.length_map, List.length_range] at hj
   rw [hc j hj]
   simp

theorem list_range {α : Type} (xs : List α) (d : α) (n : Nat) (h : n ≤ xs.length) : (List.range n).map (fun i => xs.getD i d) = xs.take n := by
 refine List.ext_getElem (by simp; omega) fun i h1 h2 => ?_
 simp only [List.getElem_map, List.getElem_range, List.getElem_take]
 rw [List.getD_eq_getElem?_getD, List.getElem?_eq_getElem (by simp at h1; omega)]
 rfl

end Go.Proofs.YthdjgebbjogmiaaDoor

namespace Go.Proofs.YthdjgebbjogmiaaDoor
open Go Go.RowKit Go.ChangeShapes Go.WideShapes Go.ChangeAt
set_option maxRecDepth 100000

theorem u8_wf {x : Int} (h : (Lit.int .u8 x).wf = true) : 0 ≤ x ∧ x < 256 := by
 simp [Lit.wf, IntKind.min, IntKind.max, IntKind.signed, IntKind.bits] at h
 omega
theorem bytes_mk {W : World} {a : Option Addr} {len cap : Nat} {zs : List Int} (hz : zs.length = cap) (hl : len ≤ cap) (hm : cap ≤ maxLen) (h : 0 < len → ∃ x, a = some x ∧ ∀ i, i < len → W.cell? (x.add i) = some (.int .u8 (zs.getD i 0))) :
 Bs W W.heap.size (.slice a len cap) (zs.take len) := by
 have hl' : (zs.take len).length = len := by rw [List.length_take]; omega
 have := rd_mk (W := W) hl hm h
 unfold Bs
 rw [hl']
 have e : (List.range len).map (fun i => Value.int .u8 (zs.getD i 0)) = u8s (zs.take len) := by
  rw [← list_range zs 0 len (by omega), u8s, List.map_map]; rfl
 rw [← e]
 exact this
section
variable {H : Type} {enc : TypeId × Value → H} {W : World} {d : DataW H} {p : List MemPlace} {base : Nat}
end
end Go.Proofs.YthdjgebbjogmiaaDoor

namespace Go.Proofs.YthdjgebbjogmiaaDoor
open Go Go.RowKit Go.ChangeShapes Go.WideShapes Go.ChangeAt
set_option maxRecDepth 100000

section
variable {H : Type} {enc : TypeId × Value → H} {W : World} {d : DataW H} {p : List MemPlace} {base : Nat}
end
end Go.Proofs.YthdjgebbjogmiaaDoor

namespace Go.Proofs.YthdjgebbjogmiaaDoor
open Go Go.RowKit Go.ChangeShapes Go.WideShapes Go.ChangeAt
set_option maxRecDepth 100000

/-- A capability's cells. -/
def capCells (c : CapD) (lit : Value) : List Value := Value.int .i64 c.kind :: (u8s c.key ++ (u8s c.fp ++ [Value.int .i64 c.K, Value.int .i64 c.N, Value.int .i64 c.S, lit]))
def capV (c : CapD) (lit : Value) : Value := .agg (capCells c lit).toArray

section
variable {H : Type} {enc : TypeId × Value → H} {W : World} {d : DataW H} {p : List MemPlace} {base : Nat}
set_option maxRecDepth 100000 in
theorem read_arr_cells {t : TypeId} {n fuel : Nat} {cl : List Value} {x : DataW H × List MemPlace} (ht : Tryd.prog.underlying t = some (.array n 5)) (hc : Tryd.prog.cellsOf t = n) 
 (hf : DataW.trod enc Tryd.prog W base (fun _ => true) true fuel t cl = some x) : ∃ z : List Int, cl = u8s z ∧ z.length = n ∧ Bytes z := by
 obtain ⟨xs, m, rfl, hx, hl, hn, hi⟩ := DataW.trod_array ht hf
 have hl' : cl.length = n := by rw [hl, hc]
 have hcu : Tryd.prog.cellsOf 5 = 1 := by kernel_rfl
 have key : ∀ i (hi : i < n), ∃ a : Int, cl[i]? = some (.int .u8 a) ∧ (Lit.int .u8 a).wf = true := by
  intro i hi16
  have h1 := hi i hi16
  rw [hcu, List.getElem?_eq_getElem (by omega)] at h1
  obtain ⟨a, ea, _, wa⟩ := DataW.trod_int Tryd.underlying5 h1
  refine ⟨a, ?_, wa⟩
  have := congrArg (fun l => l[0]?) ea
  simpa [List.getElem?_take, List.getElem?_drop] using this
 refine ⟨cl.map (fun v => match v with | .int _ n => n | _ => 0), ?_, by simpa using hl', fun x hx => ?_⟩
 · simp only [u8s, List.map_map]
   refine List.ext_getElem? fun i => ?_
   rw [List.getElem?_map]
   by_cases hi : i < n
   · obtain ⟨a, ha, _⟩ := key i hi
     rw [ha]; rfl
   · rw [List.getElem?_eq_none (by omega)]; rfl
 · obtain ⟨y, hy, rfl⟩ := List.mem_map.1 hx
   obtain ⟨i, hi, rfl⟩ := List.getElem_of_mem hy
   obtain ⟨a, ha, wa⟩ := key i (by omega)
   rw [List.getElem?_eq_getElem hi] at ha
   injection ha with ha
   rw [ha]
   exact u8_wf wa

set_option maxRecDepth 100000 in
theorem read_row8 {fuel : Nat} {cl : List Value} {x : DataW H × List MemPlace} (hf : DataW.trod enc Tryd.prog W base (fun _ => true) true fuel 26 cl = some x) :
 ∃ (v : Value) (xs : List Int), cl = [v] ∧ Bs W W.heap.size v xs ∧ Bytes xs := by
 rcases open_ints Tryd.underlying26 Tryd.underlying5 (by kernel_rfl) hf with ⟨hcs, _⟩ | ⟨x, l, c, zs, hcs, _, hl, hm, hz, _, hcell, hwz⟩
 · exact ⟨_, [], hcs, Bs.nil_ _ _, fun x hx => by simp at hx⟩
 · exact ⟨_, zs.take l, hcs, bytes_mk (by simpa using hz) hl hm (fun _ => ⟨x, rfl, fun i hi => hcell i (by simp at hz; omega)⟩), fun x hx => u8_wf (hwz x (List.mem_of_mem_take hx))⟩

theorem cut7 (l : List Value) : l = l.take 1 ++ ((l.drop 1).take 16 ++ ((l.drop 17).take 32 ++ ((l.drop 49).take 1 ++ ((l.drop 50).take 1 ++ ((l.drop 51).take 1 ++ l.drop 52))))) := by
 have h : ∀ (n k : Nat), l.drop n = (l.drop n).take k ++ l.drop (n + k) := fun n k => by
  conv => lhs; rw [← List.take_append_drop k (l.drop n)]
  rw [List.drop_drop]
 conv => lhs; rw [← List.take_append_drop 1 l, h 1 16, h 17 32, h 49 1, h 50 1, h 51 1]

/-- What a capability's type says of what comes in. -/
structure CapD.In (c : CapD) : Prop extends c.Wf where
 kindI : In64 c.kind
 KI : In64 c.K
 NI : In64 c.N
 SI : In64 c.S

end
end Go.Proofs.YthdjgebbjogmiaaDoor

namespace Go.Proofs.YthdjgebbjogmiaaDoor
open Go Go.RowKit
set_option maxRecDepth 100000

section
variable {P : Program}
theorem run_load_one (w : World) (g off : Nat) (ty : TypeId) (d : TypeDesc) (v : Value) (hc : w.cell? ⟨g, off, none⟩ = some v) (hu : P.underlying ty = some d) (hd : d.isRow = false) :
 (Instr.loadAt ty (.pointer (some ⟨g, off, none⟩))).run P w = .ok v w := by
 have hagg : (isAgg ty).run P w = .ok false w := by
  unfold isAgg
  rw [Sem.run_bind, run_underlying hu w]
  cases d <;> simp_all
 simp [Instr.loadAt, Instr.sureAddr, loadVar, hagg, hc]
theorem run_store_one (w : World) (g off : Nat) (ty : TypeId) (v : Value) (hc : (w.cell? ⟨g, off, none⟩).isSome = true) (hf : w.frozen? ⟨g, off, none⟩ = false) (h1 : v.oneCell' = true) (hi : (P.info? ty).map (·.size) = some 1) :
 (Instr.storeAt ty (.pointer (some ⟨g, off, none⟩)) v).run P w = .ok () (w.setCell ⟨g, off, none⟩ v) := by
 have hcl : v.cells = #[v] := by cases v <;> first | rfl | (simp [Value.oneCell'] at h1)
 have := run_storeCells_cells (P := P) g off [v] 0 w (fun j hj => by simp at hj; subst hj; simpa using hc) (fun j hj => by simp at hj; subst hj; simpa using hf) (fun u hu => by simp at hu; subst hu; exact h1)
 cases hq : P.info? ty with
 | none => simp [hq] at hi
 | some i =>
  have hs : 1 = i.size := by simp [hq] at hi; omega
  simp only [Nat.add_zero] at this
  simp [Instr.storeAt, Instr.sureAddr, storeVar, sizeOf, typeInfo, hq, hcl, ← hs, this, World.setCells]
theorem wp_load_one {o : Oper} {a : Act} {w : World} {K : Act → World → Prop} {Q : Exit → Act → World → Prop} (ty : TypeId) (x : Operand) (ho : o.op = .load ty x) (g off : Nat) (hx : a.eval x = .pointer (some ⟨g, off, none⟩))
 (d : TypeDesc) (hu : P.underlying ty = some d) (hd : d.isRow = false) (v : Value) (hc : w.cell? ⟨g, off, none⟩ = some v) (h : K (a.put o.dst v) w) : o.wp P a w K Q := by
 unfold Oper.wp execOp
 simp only [ho, hx, Sem.run_bind, run_load_one w g off ty d v hc hu hd, Result.andThen_ok, Sem.run_pure]
 exact h
theorem wp_store_one {o : Oper} {a : Act} {w : World} {K : Act → World → Prop} {Q : Exit → Act → World → Prop} (ty : TypeId) (x y : Operand) (ho : o.op = .store ty x y) (g off : Nat) (hx : a.eval x = .pointer (some ⟨g, off, none⟩))
 (v : Value) (hy : a.eval y = v) (hc : (w.cell? ⟨g, off, none⟩).isSome = true) (hf : w.frozen? ⟨g, off, none⟩ = false) (h1 : v.oneCell' = true) (hi : (P.info? ty).map (·.size) = some 1)
 (h : K (a.put o.dst undef) (w.setCell ⟨g, off, none⟩ v)) : o.wp P a w K Q := by
 unfold Oper.wp execOp
 simp only [ho, hx, hy, Sem.run_bind, run_store_one w g off ty v hc hf h1 hi, Result.andThen_ok, Sem.run_pure]
 exact h
theorem wpList_go {ops : Array Oper} {rest : List Oper} {o : Oper} {a : Act} {w : World} {Q : Exit → Act → World → Prop} (hw : Region.wanted o (yielded ops a.tmps) = true)
 (h : ∀ K : Act → World → Prop, (∀ a w, wpList P ops Q rest a w → K a w) → o.wp P a w K Q) : wpList P ops Q (o :: rest) a w :=
 wpList_step fun K hK => by rw [if_pos hw]; exact h K hK
end
theorem size_key : (Tryd.prog.info? 23).map (·.size) = some 16 := by kernel_rfl
theorem size_hash : (Tryd.prog.info? 25).map (·.size) = some 32 := by kernel_rfl
theorem size_int : (Tryd.prog.info? 3).map (·.size) = some 1 := by kernel_rfl
theorem size_row8 : (Tryd.prog.info? 26).map (·.size) = some 1 := by kernel_rfl
theorem wp_value {P : Program} {o : Oper} {a : Act} {w : World} {K : Act → World → Prop} {Q : Exit → Act → World → Prop} (v : Value) (h0 : (execOp a.eval o).run P w = .ok (.value v) w) (h : K (a.put o.dst v) w) : o.wp P a w K Q := by
 unfold Oper.wp
 rw [h0]
 exact h
end Go.Proofs.YthdjgebbjogmiaaDoor

namespace Go.Proofs.YthdjgebbjogmiaaDoor
open Go Go.RowKit
set_option maxRecDepth 100000

section
variable {P : Program} (w : World)

theorem run_isAgg_int {e : TypeId} {k : IntKind} (he : P.underlying e = some (.int k)) : (isAgg e).run P w = .ok false w := by
 simp [isAgg, run_underlying he]

theorem arr_part {e : TypeId} {k : IntKind} {i : TypeInfo} (he : P.underlying e = some (.int k)) (hi : P.info? e = some i) (hs : i.size = 1) (xs : List Int) (j : Nat) (hx : j < xs.length) :
 (part e (xs.map (Value.int k)).toArray j).run P w = .ok (.int k xs[j]) w := by
 simp [part, sizeOf, typeInfo, hi, hs, Result.andThen, hx, run_isAgg_int w he]

theorem run_forIn_all (p : Nat → Bool) (f : Nat → Option Bool × Unit → Sem (ForInStep (Option Bool × Unit))) : ∀ (js : List Nat),
 (∀ j ∈ js, ∀ r, (f j r).run P w = .ok (if p j = true then .yield (none, ()) else .done (some false, ())) w) → (forIn js (none, ()) f).run P w = .ok (if js.all p = true then (none, ()) else (some false, ())) w := by
 intro js
 induction js with
 | nil => intro _; simp
 | cons j js ih =>
  intro h
  have h1 := h j (List.mem_cons_self ..) (none, ())
  have h2 := ih fun j hj => h j (List.mem_cons_of_mem _ hj)
  simp only [List.forIn_cons, Sem.run_bind, h1, Result.andThen_ok]
  rcases hp : p j with _ | _
  · simp [hp]
  · simp only [if_true, h2, List.all_cons, hp, Bool.true_and]

theorem run_equalIn_arr (d : Nat) {t e : TypeId} {len : Nat} {k : IntKind} {i : TypeInfo} (ht : P.underlying t = some (.array len e)) (he : P.underlying e = some (.int k)) (hi : P.info? e = some i) (hs : i.size = 1)
 (xs ys : List Int) (hx : xs.length = len) (hy : ys.length = len) :
 (Op.equalIn (d + 2) t (.agg (xs.map (Value.int k)).toArray) (.agg (ys.map (Value.int k)).toArray)).run P w = .ok (decide (xs = ys)) w := by
 have hszl : Std.Legacy.Range.size [:len] = len := by simp [Std.Legacy.Range.size]
 have hsz : (sizeOf e).run P w = .ok 1 w := by simp [sizeOf, typeInfo, hi, hs]
 unfold Op.equalIn
 simp only [Sem.run_bind, run_underlying ht, Result.andThen_ok, hsz, Std.Legacy.Range.forIn_eq_forIn_range', hszl]
 rw [run_forIn_all w (fun j => xs.getD j 0 == ys.getD j 0)]
 · have : ((List.range' 0 len 1).all fun j => xs.getD j 0 == ys.getD j 0) = decide (xs = ys) := by
    rw [Bool.eq_iff_iff, List.all_eq_true, decide_eq_true_iff]
    constructor
    · intro h
      refine List.ext_getElem (by omega) fun j h1 h2 => ?_
      have := h j (List.mem_range'_1.2 ⟨by omega, by omega⟩)
      rw [List.getD_eq_getElem?_getD, List.getD_eq_getElem?_getD, List.getElem?_eq_getElem h1, List.getElem?_eq_getElem h2] at this
      simpa using this
    · rintro rfl j _
      simp
   rw [this]
   by_cases h : xs = ys <;> simp [h]
 · intro j hj r
   obtain ⟨_, hj⟩ := List.mem_range'_1.1 hj
   have h1 : j < xs.length := by omega
   have h2 : j < ys.length := by omega
   rw [List.getD_eq_getElem?_getD, List.getD_eq_getElem?_getD, List.getElem?_eq_getElem h1, List.getElem?_eq_getElem h2]
   simp only [Nat.mul_one, Sem.run_bind, arr_part w he hi hs xs j h1, arr_part w he hi hs ys j h2, Result.andThen_ok, run_equalIn_int w d e k k _ _ he, Option.getD_some]
   by_cases h : xs[j] = ys[j] <;> simp [h]

theorem run_eql_arr {t e : TypeId} {len : Nat} {k : IntKind} (ht : P.underlying t = some (.array len e)) (he : P.underlying e = some (.int k)) (hi : (P.info? e).map (·.size) = some 1)
 (xs ys : List Int) (hx : xs.length = len) (hy : ys.length = len) :
 (binOp .eql t (.agg (xs.map (Value.int k)).toArray) (.agg (ys.map (Value.int k)).toArray)).run P w = .ok (.bool (decide (xs = ys))) w := by
 obtain ⟨i, hi, hs⟩ := Option.map_eq_some_iff.1 hi
 simp only [binOp]
 simp [Op.equal, Op.maxDepth, run_equalIn_arr w 9998 ht he hi hs xs ys hx hy]
end
end Go.Proofs.YthdjgebbjogmiaaDoor
