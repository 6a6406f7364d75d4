/- What an argument that can be read as data gives to a walk. No condition.
A slice of bytes that comes in. No condition.
An array of 16 bytes that comes in. No condition.
A capability that comes in: its cells as data. No condition.
One cell read and written inside a walk; an operation that yields a value. No condition.
'==' and '!=' of two arrays of integers. No condition.
A capability in a block of its own: its fields read and written inside a walk. No condition. -/
import Derived.Test.YthdjgebbjogmiaaGreatDoorRows
import Derived.Test.YthdjgebbjogmiaaGreatDoorJoin1
import Derived.ProofKit
import Derived.OpenShut
import Derived.ShutString
import Derived.ChangeOld
import Derived.Test.YthdjgebbjogmiaaGreatDoorJoin5
import Derived.Test.YthdjgebbjogmiaaGreatDoorJoin2
import Derived.Great.Ranges
import Derived.Laws.StructEq
set_option linter.unusedVariables false
set_option linter.unusedSimpArgs false
namespace Go.Proofs.YthdjgebbjogmiaaGreatDoor
open Go Go.RowKit Go.ChangeShapes Go.WideShapes Go.ChangeAt
set_option maxRecDepth 100000

theorem own : ownKnob Tryz.prog.godebug = none := by kernel_rfl
theorem laidOut : laidOutB Tryz.prog = true := by kernel_rfl

/-- A number that an int64 can be. -/
def In64 (x : Int) : Prop := -9223372036854775808 ≤ x ∧ x ≤ 9223372036854775807
theorem in64_wf {x : Int} (h : (Lit.int .i64 x).wf = true) : In64 x := by
 have := bounds_i64 h;exact ⟨by omega, by omega⟩

theorem add_off (b o i : Nat) : (⟨b, o, none⟩ : Addr).add i = ⟨b, o + i, none⟩ := by
 unfold Addr.add; split
 · rename_i h; subst h; rfl
 · rfl

/-- A slice that lies in memory, element by element. -/
theorem rd_mk {W : World} {a : Option Addr} {len cap : Nat} {f : Nat → Value} (hl : len ≤ cap) (hm : cap ≤ maxLen) (h : 0 < len → ∃ x, a = some x ∧ ∀ i, i < len → W.cell? (x.add i) = some (f i)) :
 Rd W W.heap.size 1 (.slice a len cap) len ((List.range len).map f) := by
 refine ⟨a, cap, rfl, hl, hm, by simp, fun hp => ?_⟩;obtain ⟨x, rfl, hc⟩ := h hp;obtain ⟨b, o, spot⟩ := x;have h0 := hc 0 hp
 have hspot : spot = none := by simpa [Addr.add] using World.cell?_spot h0
 subst hspot;refine ⟨b, o, rfl, ?_, fun j u hu => ?_⟩
 · rcases Nat.lt_or_ge b W.heap.size with h | h
   · exact h
   · rw [add_off] at h0
     unfold World.cell? at h0;simp only at h0;rw [Array.getElem?_eq_none h] at h0;cases h0
 · rw [← add_off]
   obtain ⟨hj, rfl⟩ := List.getElem?_eq_some_iff.1 hu;simp only [List.length_map, List.length_range] at hj;rw [hc j hj]
   simp

theorem list_range {α : Type} (xs : List α) (d : α) (n : Nat) (h : n ≤ xs.length) : (List.range n).map (fun i => xs.getD i d) = xs.take n := by
 refine List.ext_getElem (by simp; omega) fun i h1 h2 => ?_
 simp only [List.getElem_map, List.getElem_range, List.getElem_take];rw [List.getD_eq_getElem?_getD, List.getElem?_eq_getElem (by simp at h1; omega)]
 rfl


theorem u8_wf {x : Int} (h : (Lit.int .u8 x).wf = true) : 0 ≤ x ∧ x < 256 := by
 simp [Lit.wf, IntKind.min, IntKind.max, IntKind.signed, IntKind.bits] at h
 omega
theorem bytes_mk {W : World} {a : Option Addr} {len cap : Nat} {zs : List Int} (hz : zs.length = cap) (hl : len ≤ cap) (hm : cap ≤ maxLen) (h : 0 < len → ∃ x, a = some x ∧ ∀ i, i < len → W.cell? (x.add i) = some (.int .u8 (zs.getD i 0))) :
 Bs W W.heap.size (.slice a len cap) (zs.take len) := by
 have hl' : (zs.take len).length = len := by rw [List.length_take]; omega
 have := rd_mk (W := W) hl hm h;unfold Bs;rw [hl']
 have e : (List.range len).map (fun i => Value.int .u8 (zs.getD i 0)) = u8s (zs.take len) := by
  rw [← list_range zs 0 len (by omega), u8s, List.map_map]; rfl
 rw [← e]
 exact this
section
variable {H : Type} {enc : TypeId × Value → H} {W : World} {d : DataW H} {p : List MemPlace} {base : Nat}
theorem read_bytes {a : Option Addr} {len cap : Nat} (h : DataW.Trod enc Tryz.prog W base (fun _ => true) true 26 (.slice a len cap) d p) :
 ∃ xs : List Int, Bs W W.heap.size (.slice a len cap) xs ∧ Bytes xs := by
 obtain ⟨fuel, hf⟩ := h
 rcases open_ints Tryz.underlying26 Tryz.underlying5 (by kernel_rfl) hf with ⟨hcs, _⟩ | ⟨x, l, c, zs, hcs, _, hl, hm, hz, _, hcell, hwz⟩
 · simp [Value.cells] at hcs
   obtain ⟨rfl, rfl, rfl⟩ := hcs;exact ⟨[], Bs.nil_ _ _, fun x hx => by simp at hx⟩
 · simp [Value.cells] at hcs
   obtain ⟨rfl, rfl, rfl⟩ := hcs;refine ⟨zs.take len, bytes_mk (by simpa using hz) hl hm (fun _ => ⟨x, rfl, fun i hi => hcell i (by simp at hz; omega)⟩), fun x hx => u8_wf (hwz x (List.mem_of_mem_take hx))⟩
end

section
variable {H : Type} {enc : TypeId × Value → H} {W : World} {d : DataW H} {p : List MemPlace} {base : Nat}
end

/-- A capability's cells. -/
def capCells (c : CapD) (lit : Value) : List Value := Value.int .i64 c.kind :: (u8s c.key ++ (u8s c.fp ++ [Value.int .i64 c.K, Value.int .i64 c.N, Value.int .i64 c.S, lit]))
def capV (c : CapD) (lit : Value) : Value := .agg (capCells c lit).toArray

section
variable {H : Type} {enc : TypeId × Value → H} {W : World} {d : DataW H} {p : List MemPlace} {base : Nat}
set_option maxRecDepth 100000 in
theorem read_arr_cells {t : TypeId} {n fuel : Nat} {cl : List Value} {x : DataW H × List MemPlace} (ht : Tryz.prog.underlying t = some (.array n 5)) (hc : Tryz.prog.cellsOf t = n) 
 (hf : DataW.trod enc Tryz.prog W base (fun _ => true) true fuel t cl = some x) : ∃ z : List Int, cl = u8s z ∧ z.length = n ∧ Bytes z := by
 obtain ⟨xs, m, rfl, hx, hl, hn, hi⟩ := DataW.trod_array ht hf
 have hl' : cl.length = n := by rw [hl, hc]
 have hcu : Tryz.prog.cellsOf 5 = 1 := by kernel_rfl
 have key : ∀ i (hi : i < n), ∃ a : Int, cl[i]? = some (.int .u8 a) ∧ (Lit.int .u8 a).wf = true := by
  intro i hi16;have h1 := hi i hi16;rw [hcu, List.getElem?_eq_getElem (by omega)] at h1;obtain ⟨a, ea, _, wa⟩ := DataW.trod_int Tryz.underlying5 h1;refine ⟨a, ?_, wa⟩;have := congrArg (fun l => l[0]?) ea
  simpa [List.getElem?_take, List.getElem?_drop] using this
 refine ⟨cl.map (fun v => match v with | .int _ n => n | _ => 0), ?_, by simpa using hl', fun x hx => ?_⟩
 · simp only [u8s, List.map_map]
   refine List.ext_getElem? fun i => ?_
   rw [List.getElem?_map]
   by_cases hi : i < n
   · obtain ⟨a, ha, _⟩ := key i hi
     rw [ha]; rfl
   · rw [List.getElem?_eq_none (by omega)]; rfl
 · obtain ⟨y, hy, rfl⟩ := List.mem_map.1 hx
   obtain ⟨i, hi, rfl⟩ := List.getElem_of_mem hy;obtain ⟨a, ha, wa⟩ := key i (by omega);rw [List.getElem?_eq_getElem hi] at ha
   injection ha with ha
   rw [ha];exact u8_wf wa

set_option maxRecDepth 100000 in
theorem read_row8 {fuel : Nat} {cl : List Value} {x : DataW H × List MemPlace} (hf : DataW.trod enc Tryz.prog W base (fun _ => true) true fuel 26 cl = some x) :
 ∃ (v : Value) (xs : List Int), cl = [v] ∧ Bs W W.heap.size v xs ∧ Bytes xs := by
 rcases open_ints Tryz.underlying26 Tryz.underlying5 (by kernel_rfl) hf with ⟨hcs, _⟩ | ⟨x, l, c, zs, hcs, _, hl, hm, hz, _, hcell, hwz⟩
 · exact ⟨_, [], hcs, Bs.nil_ _ _, fun x hx => by simp at hx⟩
 · exact ⟨_, zs.take l, hcs, bytes_mk (by simpa using hz) hl hm (fun _ => ⟨x, rfl, fun i hi => hcell i (by simp at hz; omega)⟩), fun x hx => u8_wf (hwz x (List.mem_of_mem_take hx))⟩

theorem cut7 (l : List Value) : l = l.take 1 ++ ((l.drop 1).take 16 ++ ((l.drop 17).take 32 ++ ((l.drop 49).take 1 ++ ((l.drop 50).take 1 ++ ((l.drop 51).take 1 ++ l.drop 52))))) := by
 have h : ∀ (n k : Nat), l.drop n = (l.drop n).take k ++ l.drop (n + k) := fun n k => by
  conv => lhs; rw [← List.take_append_drop k (l.drop n)]
  rw [List.drop_drop]
 conv => lhs; rw [← List.take_append_drop 1 l, h 1 16, h 17 32, h 49 1, h 50 1, h 51 1]

/-- What a capability's type says of what comes in. -/
structure CapD.In (c : CapD) : Prop extends c.Wf where
 kindI : In64 c.kind
 KI : In64 c.K
 NI : In64 c.N
 SI : In64 c.S

set_option maxRecDepth 100000 in
theorem read_cap {v : Value} {r : Reach} {b0 : Nat} (hv : Value.okWide Tryz.prog W r b0 28 v) (h : DataW.Trod enc Tryz.prog W base (fun _ => true) true 28 v d p) :
 ∃ (c : CapD) (lit : Value), v = capV c lit ∧ c.In ∧ Bs W W.heap.size lit c.lit := by
 obtain ⟨cs, rfl, hsz⟩ := okWide_struct Tryz.underlying28 hv;obtain ⟨fuel, hf⟩ := h;obtain ⟨xs, n, _, _, hl, hlen, hi⟩ := DataW.trod_struct Tryz.underlying28 hf;have hcells : (Value.agg cs).cells = cs := rfl;rw [hcells] at hl hi
 have hxl : xs.length = 7 := by rw [hlen]; rfl
 have g : ∀ i (h : i < 7), xs[i]? = some (xs[i]'(by omega)) := fun i h => List.getElem?_eq_getElem (by omega)
 have h0 := hi 0 _ rfl; rw [g 0 (by omega)] at h0;have h1 := hi 1 _ rfl; rw [g 1 (by omega)] at h1;have h2 := hi 2 _ rfl; rw [g 2 (by omega)] at h2;have h3 := hi 3 _ rfl; rw [g 3 (by omega)] at h3;have h4 := hi 4 _ rfl; rw [g 4 (by omega)] at h4;have h5 := hi 5 _ rfl; rw [g 5 (by omega)] at h5;have h6 := hi 6 _ rfl; rw [g 6 (by omega)] at h6;clear hi g;obtain ⟨a0, e0, _, w0⟩ := DataW.trod_int Tryz.underlying3 h0;obtain ⟨z1, e1, l1, b1⟩ := read_arr_cells Tryz.underlying23 (by kernel_rfl) h1;obtain ⟨z2, e2, l2, b2⟩ := read_arr_cells Tryz.underlying25 (by kernel_rfl) h2;obtain ⟨a3, e3, _, w3⟩ := DataW.trod_int Tryz.underlying3 h3;obtain ⟨a4, e4, _, w4⟩ := DataW.trod_int Tryz.underlying3 h4;obtain ⟨a5, e5, _, w5⟩ := DataW.trod_int Tryz.underlying3 h5;obtain ⟨v6, z6, e6, r6, b6⟩ := read_row8 h6;refine ⟨⟨a0, z1, z2, a3, a4, a5, z6⟩, v6, ?_, ⟨⟨l1, b1, l2, b2, b6⟩, in64_wf w0, in64_wf w3, in64_wf w4, in64_wf w5⟩, r6⟩
 have c1 : Tryz.prog.cellsOf 3 = 1 := by kernel_rfl
 have c2 : Tryz.prog.cellsOf 23 = 16 := by kernel_rfl
 have c3 : Tryz.prog.cellsOf 25 = 32 := by kernel_rfl
 have c4 : Tryz.prog.cellsOf 26 = 1 := by kernel_rfl
 have c5 : Tryz.prog.cellsOf 28 = 53 := by kernel_rfl
 replace e0 : (cs.toList.drop 0).take (Tryz.prog.cellsOf 3) = [.int .i64 a0] := e0;replace e1 : (cs.toList.drop 1).take (Tryz.prog.cellsOf 23) = u8s z1 := e1;replace e2 : (cs.toList.drop 17).take (Tryz.prog.cellsOf 25) = u8s z2 := e2;replace e3 : (cs.toList.drop 49).take (Tryz.prog.cellsOf 3) = [.int .i64 a3] := e3;replace e4 : (cs.toList.drop 50).take (Tryz.prog.cellsOf 3) = [.int .i64 a4] := e4;replace e5 : (cs.toList.drop 51).take (Tryz.prog.cellsOf 3) = [.int .i64 a5] := e5;replace e6 : (cs.toList.drop 52).take (Tryz.prog.cellsOf 26) = [v6] := e6;rw [c1] at e0 e3 e4 e5;rw [c2] at e1;rw [c3] at e2;rw [c4] at e6
 have e6' : cs.toList.drop 52 = [v6] := by
  rw [← e6, List.take_of_length_le (by rw [List.length_drop, hl, c5]; omega)]
 unfold capV capCells
 congr 1
 apply Array.ext'
 rw [cut7 cs.toList]
 try simp only [List.drop_zero] at e0
 rw [e0, e1, e2, e3, e4, e5, e6']
 simp
end
end Go.Proofs.YthdjgebbjogmiaaGreatDoor

namespace Go.Proofs.YthdjgebbjogmiaaGreatDoor
open Go Go.RowKit
set_option maxRecDepth 100000

section
variable {P : Program}
theorem run_load_one (w : World) (g off : Nat) (ty : TypeId) (d : TypeDesc) (v : Value) (hc : w.cell? ⟨g, off, none⟩ = some v) (hu : P.underlying ty = some d) (hd : d.isRow = false) :
 (Instr.loadAt ty (.pointer (some ⟨g, off, none⟩))).run P w = .ok v w := by
 have hagg : (isAgg ty).run P w = .ok false w := by
  unfold isAgg;rw [Sem.run_bind, run_underlying hu w]
  cases d <;> simp_all
 simp [Instr.loadAt, Instr.sureAddr, loadVar, hagg, hc]
theorem run_store_one (w : World) (g off : Nat) (ty : TypeId) (v : Value) (hc : (w.cell? ⟨g, off, none⟩).isSome = true) (hf : w.frozen? ⟨g, off, none⟩ = false) (h1 : v.oneCell' = true) (hi : (P.info? ty).map (·.size) = some 1) :
 (Instr.storeAt ty (.pointer (some ⟨g, off, none⟩)) v).run P w = .ok () (w.setCell ⟨g, off, none⟩ v) := by
 have hcl : v.cells = #[v] := by cases v <;> first | rfl | (simp [Value.oneCell'] at h1)
 have := run_storeCells_cells (P := P) g off [v] 0 w (fun j hj => by simp at hj; subst hj; simpa using hc) (fun j hj => by simp at hj; subst hj; simpa using hf) (fun u hu => by simp at hu; subst hu; exact h1)
 cases hq : P.info? ty with
 | none => simp [hq] at hi
 | some i =>
  have hs : 1 = i.size := by simp [hq] at hi; omega
  simp only [Nat.add_zero] at this
  simp [Instr.storeAt, Instr.sureAddr, storeVar, sizeOf, typeInfo, hq, hcl, ← hs, this, World.setCells]
theorem wp_load_one {o : Oper} {a : Act} {w : World} {K : Act → World → Prop} {Q : Exit → Act → World → Prop} (ty : TypeId) (x : Operand) (ho : o.op = .load ty x) (g off : Nat) (hx : a.eval x = .pointer (some ⟨g, off, none⟩))
 (d : TypeDesc) (hu : P.underlying ty = some d) (hd : d.isRow = false) (v : Value) (hc : w.cell? ⟨g, off, none⟩ = some v) (h : K (a.put o.dst v) w) : o.wp P a w K Q := by
 unfold Oper.wp execOp;simp only [ho, hx, Sem.run_bind, run_load_one w g off ty d v hc hu hd, Result.andThen_ok, Sem.run_pure];exact h
theorem wp_store_one {o : Oper} {a : Act} {w : World} {K : Act → World → Prop} {Q : Exit → Act → World → Prop} (ty : TypeId) (x y : Operand) (ho : o.op = .store ty x y) (g off : Nat) (hx : a.eval x = .pointer (some ⟨g, off, none⟩))
 (v : Value) (hy : a.eval y = v) (hc : (w.cell? ⟨g, off, none⟩).isSome = true) (hf : w.frozen? ⟨g, off, none⟩ = false) (h1 : v.oneCell' = true) (hi : (P.info? ty).map (·.size) = some 1)
 (h : K (a.put o.dst undef) (w.setCell ⟨g, off, none⟩ v)) : o.wp P a w K Q := by
 unfold Oper.wp execOp;simp only [ho, hx, hy, Sem.run_bind, run_store_one w g off ty v hc hf h1 hi, Result.andThen_ok, Sem.run_pure];exact h
theorem wpList_go {ops : Array Oper} {rest : List Oper} {o : Oper} {a : Act} {w : World} {Q : Exit → Act → World → Prop} (hw : Region.wanted o (yielded ops a.tmps) = true)
 (h : ∀ K : Act → World → Prop, (∀ a w, wpList P ops Q rest a w → K a w) → o.wp P a w K Q) : wpList P ops Q (o :: rest) a w :=
 wpList_step fun K hK => by rw [if_pos hw]; exact h K hK
end
theorem size_key : (Tryz.prog.info? 23).map (·.size) = some 16 := by kernel_rfl
theorem size_hash : (Tryz.prog.info? 25).map (·.size) = some 32 := by kernel_rfl
theorem size_int : (Tryz.prog.info? 3).map (·.size) = some 1 := by kernel_rfl
theorem size_row8 : (Tryz.prog.info? 26).map (·.size) = some 1 := by kernel_rfl
theorem wp_value {P : Program} {o : Oper} {a : Act} {w : World} {K : Act → World → Prop} {Q : Exit → Act → World → Prop} (v : Value) (h0 : (execOp a.eval o).run P w = .ok (.value v) w) (h : K (a.put o.dst v) w) : o.wp P a w K Q := by
 unfold Oper.wp;rw [h0];exact h

section
variable {P : Program} (w : World)

theorem run_isAgg_int {e : TypeId} {k : IntKind} (he : P.underlying e = some (.int k)) : (isAgg e).run P w = .ok false w := by
 simp [isAgg, run_underlying he]

theorem arr_part {e : TypeId} {k : IntKind} {i : TypeInfo} (he : P.underlying e = some (.int k)) (hi : P.info? e = some i) (hs : i.size = 1) (xs : List Int) (j : Nat) (hx : j < xs.length) :
 (part e (xs.map (Value.int k)).toArray j).run P w = .ok (.int k xs[j]) w := by
 simp [part, sizeOf, typeInfo, hi, hs, Result.andThen, hx, run_isAgg_int w he]

theorem run_forIn_all (p : Nat → Bool) (f : Nat → Option Bool × Unit → Sem (ForInStep (Option Bool × Unit))) : ∀ (js : List Nat),
 (∀ j ∈ js, ∀ r, (f j r).run P w = .ok (if p j = true then .yield (none, ()) else .done (some false, ())) w) → (forIn js (none, ()) f).run P w = .ok (if js.all p = true then (none, ()) else (some false, ())) w := by
 intro js
 induction js with
 | nil => intro _; simp
 | cons j js ih =>
  intro h;have h1 := h j (List.mem_cons_self ..) (none, ())
  have h2 := ih fun j hj => h j (List.mem_cons_of_mem _ hj)
  simp only [List.forIn_cons, Sem.run_bind, h1, Result.andThen_ok]
  rcases hp : p j with _ | _
  · simp [hp]
  · simp only [if_true, h2, List.all_cons, hp, Bool.true_and]

theorem run_equalIn_arr (d : Nat) {t e : TypeId} {len : Nat} {k : IntKind} {i : TypeInfo} (ht : P.underlying t = some (.array len e)) (he : P.underlying e = some (.int k)) (hi : P.info? e = some i) (hs : i.size = 1)
 (xs ys : List Int) (hx : xs.length = len) (hy : ys.length = len) :
 (Op.equalIn (d + 2) t (.agg (xs.map (Value.int k)).toArray) (.agg (ys.map (Value.int k)).toArray)).run P w = .ok (decide (xs = ys)) w := by
 have hszl : Std.Legacy.Range.size [:len] = len := by simp [Std.Legacy.Range.size]
 have hsz : (sizeOf e).run P w = .ok 1 w := by simp [sizeOf, typeInfo, hi, hs]
 unfold Op.equalIn;simp only [Sem.run_bind, run_underlying ht, Result.andThen_ok, hsz, Std.Legacy.Range.forIn_eq_forIn_range', hszl];rw [run_forIn_all w (fun j => xs.getD j 0 == ys.getD j 0)]
 · have : ((List.range' 0 len 1).all fun j => xs.getD j 0 == ys.getD j 0) = decide (xs = ys) := by
    rw [Bool.eq_iff_iff, List.all_eq_true, decide_eq_true_iff]
    constructor
    · intro h
      refine List.ext_getElem (by omega) fun j h1 h2 => ?_
      have := h j (List.mem_range'_1.2 ⟨by omega, by omega⟩)
      rw [List.getD_eq_getElem?_getD, List.getD_eq_getElem?_getD, List.getElem?_eq_getElem h1, List.getElem?_eq_getElem h2] at this
      simpa using this
    · rintro rfl j _
      simp
   rw [this]
   by_cases h : xs = ys <;> simp [h]
 · intro j hj r
   obtain ⟨_, hj⟩ := List.mem_range'_1.1 hj
   have h1 : j < xs.length := by omega
   have h2 : j < ys.length := by omega
   rw [List.getD_eq_getElem?_getD, List.getD_eq_getElem?_getD, List.getElem?_eq_getElem h1, List.getElem?_eq_getElem h2];simp only [Nat.mul_one, Sem.run_bind, arr_part w he hi hs xs j h1, arr_part w he hi hs ys j h2, Result.andThen_ok, run_equalIn_int w d e k k _ _ he, Option.getD_some]
   by_cases h : xs[j] = ys[j] <;> simp [h]

theorem run_eql_arr {t e : TypeId} {len : Nat} {k : IntKind} (ht : P.underlying t = some (.array len e)) (he : P.underlying e = some (.int k)) (hi : (P.info? e).map (·.size) = some 1)
 (xs ys : List Int) (hx : xs.length = len) (hy : ys.length = len) :
 (binOp .eql t (.agg (xs.map (Value.int k)).toArray) (.agg (ys.map (Value.int k)).toArray)).run P w = .ok (.bool (decide (xs = ys))) w := by
 obtain ⟨i, hi, hs⟩ := Option.map_eq_some_iff.1 hi;simp only [binOp]
 simp [Op.equal, Op.maxDepth, run_equalIn_arr w 9998 ht he hi hs xs ys hx hy]
end


/-- A capability lies whole in block g. -/
structure CapB (w : World) (g : Nat) (c : CapD) (lit : Value) : Prop where
 blk : Blk w g 28 (capCells c lit)
 keyL : c.key.length = 16
 fpL : c.fp.length = 32
 one : lit.oneCell' = true

theorem cc_len {c : CapD} (lit : Value) (h1 : c.key.length = 16) (h2 : c.fp.length = 32) : (capCells c lit).length = 53 := by
 simp [capCells, u8s_len, h1, h2]
/-- The number in a cell. -/
def capInt (c : CapD) : Nat → Option Int
 | 0 => some c.kind
 | 49 => some c.K
 | 50 => some c.N
 | 51 => some c.S
 | _ => none
def capPut (c : CapD) (n : Int) : Nat → Option CapD
 | 0 => some { c with kind := n }
 | 49 => some { c with K := n }
 | 50 => some { c with N := n }
 | 51 => some { c with S := n }
 | _ => none
theorem cc_tail {c : CapD} (lit : Value) (h1 : c.key.length = 16) (h2 : c.fp.length = 32) (j : Nat) : (capCells c lit)[49 + j]? = [Value.int .i64 c.K, Value.int .i64 c.N, Value.int .i64 c.S, lit][j]? := by
 unfold capCells;rw [show 49 + j = (48 + j) + 1 by omega, List.getElem?_cons_succ, List.getElem?_append_right (by rw [u8s_len]; omega), List.getElem?_append_right (by rw [u8s_len, u8s_len]; omega), u8s_len, u8s_len, h1, h2]
 congr 1
 omega
theorem cc_int {c : CapD} {lit : Value} (h1 : c.key.length = 16) (h2 : c.fp.length = 32) {off : Nat} {n : Int} (h : capInt c off = some n) : (capCells c lit)[off]? = some (.int .i64 n) := by
 unfold capInt at h
 split at h
 · injection h with h; subst h; rfl
 · injection h with h; subst h; exact cc_tail lit h1 h2 0
 · injection h with h; subst h; exact cc_tail lit h1 h2 1
 · injection h with h; subst h; exact cc_tail lit h1 h2 2
 · cases h
theorem cc_lit {c : CapD} {lit : Value} (h1 : c.key.length = 16) (h2 : c.fp.length = 32) : (capCells c lit)[52]? = some lit := cc_tail lit h1 h2 3
theorem cc_key {c : CapD} {lit : Value} (h1 : c.key.length = 16) (j : Nat) (u : Value) (h : (u8s c.key)[j]? = some u) : (capCells c lit)[1 + j]? = some u := by
 have hj : j < 16 := by have := (List.getElem?_eq_some_iff.1 h).1; rw [u8s_len] at this; omega
 unfold capCells;rw [show 1 + j = j + 1 by omega, List.getElem?_cons_succ, List.getElem?_append_left (by rw [u8s_len]; omega)];exact h
theorem cc_fp {c : CapD} {lit : Value} (h1 : c.key.length = 16) (h2 : c.fp.length = 32) (j : Nat) (u : Value) (h : (u8s c.fp)[j]? = some u) : (capCells c lit)[17 + j]? = some u := by
 have hj : j < 32 := by have := (List.getElem?_eq_some_iff.1 h).1; rw [u8s_len] at this; omega
 unfold capCells;rw [show 17 + j = (16 + j) + 1 by omega, List.getElem?_cons_succ, List.getElem?_append_right (by rw [u8s_len]; omega), u8s_len, h1, List.getElem?_append_left (by rw [u8s_len]; omega), ← h]
 congr 1
 omega
theorem set_mid (l r : List Value) (x y : Value) (n : Nat) (h : l.length = n) : (l ++ x :: r).set n y = l ++ y :: r := by
 subst h
 simp
theorem cc_split {c : CapD} (lit : Value) : capCells c lit = (Value.int .i64 c.kind :: (u8s c.key ++ u8s c.fp)) ++ [Value.int .i64 c.K, Value.int .i64 c.N, Value.int .i64 c.S, lit] := by simp [capCells]
theorem cc_setTail {c : CapD} (lit : Value) (h1 : c.key.length = 16) (h2 : c.fp.length = 32) (j : Nat) (u : Value) : (capCells c lit).set (49 + j) u = (Value.int .i64 c.kind :: (u8s c.key ++ u8s c.fp)) ++ [Value.int .i64 c.K, Value.int .i64 c.N, Value.int .i64 c.S, lit].set j u := by
 rw [cc_split, List.set_append_right _ _ (by simp [u8s_len]; omega)]
 congr 2
 simp [u8s_len]; omega
theorem cc_put {c c' : CapD} {lit : Value} (h1 : c.key.length = 16) (h2 : c.fp.length = 32) {off : Nat} {n : Int} (h : capPut c n off = some c') : (capCells c lit).set off (.int .i64 n) = capCells c' lit := by
 unfold capPut at h
 split at h
 · injection h with h; subst h; rfl
 · injection h with h; subst h; rw [cc_setTail lit h1 h2 0, cc_split]; rfl
 · injection h with h; subst h; rw [cc_setTail lit h1 h2 1, cc_split]; rfl
 · injection h with h; subst h; rw [cc_setTail lit h1 h2 2, cc_split]; rfl
 · cases h
theorem cc_putLit {c : CapD} {lit : Value} (h1 : c.key.length = 16) (h2 : c.fp.length = 32) (l' : Value) : (capCells c lit).set 52 l' = capCells c l' := by
 rw [cc_setTail lit h1 h2 3, cc_split]; rfl
theorem capPut_len {c c' : CapD} {off : Nat} {n : Int} (h : capPut c n off = some c') : c'.key = c.key ∧ c'.fp = c.fp := by
 unfold capPut at h
 split at h <;> first | (injection h with h; subst h; exact ⟨rfl, rfl⟩) | cases h
theorem lset_app (vs : List Value) : ∀ (p r : List Value) (q : List Value) (_ : q.length = vs.length), lset (p ++ (q ++ r)) p.length vs = p ++ (vs ++ r) := by
 induction vs with
 | nil => intro p r q h; rw [List.eq_nil_of_length_eq_zero h]; rfl
 | cons v vs ih =>
  intro p r q h
  match q, h with
  | x :: q, h =>
   have := ih (p ++ [v]) r q (by simpa using h);rw [lset]
   simp only [List.append_assoc, List.singleton_append, List.length_append, List.length_singleton, List.cons_append] at this ⊢
   rw [set_mid _ _ _ _ _ rfl]
   exact this
theorem cc_putKey {c : CapD} {lit : Value} (h1 : c.key.length = 16) (k : List Int) (hk : k.length = 16) : lset (capCells c lit) 1 (u8s k) = capCells { c with key := k } lit :=
 lset_app (u8s k) [Value.int .i64 c.kind] _ (u8s c.key) (by rw [u8s_len, u8s_len]; omega)
theorem cc_putFp {c : CapD} {lit : Value} (h1 : c.key.length = 16) (h2 : c.fp.length = 32) (k : List Int) (hk : k.length = 32) : lset (capCells c lit) 17 (u8s k) = capCells { c with fp := k } lit := by
 have := lset_app (u8s k) (Value.int .i64 c.kind :: u8s c.key) [Value.int .i64 c.K, Value.int .i64 c.N, Value.int .i64 c.S, lit] (u8s c.fp) (by rw [u8s_len, u8s_len]; omega)
 rw [show (Value.int IntKind.i64 c.kind :: u8s c.key).length = 17 by simp [u8s_len, h1]] at this
 exact this

section
variable {w w' : World} {g : Nat} {c : CapD} {lit : Value}
theorem CapB.below {B : Nat} (h : CapB w g c lit) (hb : Below B w w') (hg : g < B) : CapB w' g c lit := ⟨h.blk.below hb hg, h.keyL, h.fpL, h.one⟩
theorem CapB.grown {row : Option Nat} (h : CapB w g c lit) (hb : w.grownBy w' row) (hg : some g ≠ row) : CapB w' g c lit := ⟨h.blk.grown hb hg, h.keyL, h.fpL, h.one⟩
theorem CapB.drew (h : CapB w g c lit) : CapB w.drew g c lit := ⟨h.blk.drew, h.keyL, h.fpL, h.one⟩
theorem CapB.lt (h : CapB w g c lit) : g < w.heap.size := h.blk.lt
theorem CapB.new_ (w : World) (h1 : c.key.length = 16) (h2 : c.fp.length = 32) (h3 : lit.oneCell' = true) : CapB (w.alloc (.cells (capCells c lit).toArray 28)) w.heap.size c lit :=
 ⟨Blk.new w _ _, h1, h2, h3⟩
theorem CapB.int_ (h : CapB w g c lit) {off : Nat} {n : Int} (hn : capInt c off = some n) : w.cell? ⟨g, off, none⟩ = some (.int .i64 n) := by rw [h.blk.cell]; exact cc_int h.keyL h.fpL hn
theorem CapB.lit_ (h : CapB w g c lit) : w.cell? ⟨g, 52, none⟩ = some lit := by rw [h.blk.cell]; exact cc_lit h.keyL h.fpL
theorem CapB.ones (h : CapB w g c lit) : ∀ u ∈ capCells c lit, u.oneCell' = true := fun u hu => by
 unfold capCells at hu;simp only [List.mem_cons, List.mem_append, List.not_mem_nil, or_false] at hu
 rcases hu with rfl | hu | hu | rfl | rfl | rfl | rfl
 · rfl
 · exact u8s_one _ _ hu
 · exact u8s_one _ _ hu
 · rfl
 · rfl
 · rfl
 · exact h.one
theorem CapB.keyRange (h : CapB w g c lit) : w.rangeAt g 1 (u8s c.key) := blk_range h.blk 1 _ (cc_key h.keyL)
theorem CapB.fpRange (h : CapB w g c lit) : w.rangeAt g 17 (u8s c.fp) := blk_range h.blk 17 _ (cc_fp h.keyL h.fpL)
/-- The key, the print as rows of bytes. -/
theorem CapB.keyRow {B : Nat} (h : CapB w g c lit) (hg : g < B) : Bs w B (.slice (some ⟨g, 1, none⟩) 16 16) c.key := by
 unfold Bs;rw [h.keyL];exact ⟨_, 16, rfl, Nat.le_refl _, by decide, by rw [u8s_len, h.keyL], fun _ => ⟨g, 1, rfl, hg, h.keyRange⟩⟩
theorem CapB.fpRow {B : Nat} (h : CapB w g c lit) (hg : g < B) : Bs w B (.slice (some ⟨g, 17, none⟩) 32 32) c.fp := by
 unfold Bs;rw [h.fpL];exact ⟨_, 32, rfl, Nat.le_refl _, by decide, by rw [u8s_len, h.fpL], fun _ => ⟨g, 17, rfl, hg, h.fpRange⟩⟩
end

theorem size_cap : (Tryz.prog.info? 28).map (·.size) = some 53 := by kernel_rfl
theorem zero_cap : (Tryz.prog.info? 28).map (·.zero) = some (some (.agg (capCells CapD.none_ (.slice none 0 0)).toArray)) := by kernel_rfl

section
variable {ops : Array Oper} {rest : List Oper} {o : Oper} {a : Act} {w : World} {Q : Exit → Act → World → Prop} {g : Nat} {c : CapD} {lit : Value}
theorem wpList_cap_int (x : Operand) (ho : o.op = .load 3 x) (off : Nat) (hx : a.eval x = .pointer (some ⟨g, off, none⟩)) (hw : Region.wanted o (yielded ops a.tmps) = true) (hB : CapB w g c lit)
 (n : Int) (hn : capInt c off = some n) (h : wpList Tryz.prog ops Q rest (a.put o.dst (.int .i64 n)) w) : wpList Tryz.prog ops Q (o :: rest) a w :=
 wpList_go hw fun _ hK => wp_load_one _ x ho g off hx _ Tryz.underlying3 rfl _ (hB.int_ hn) (hK _ _ h)
theorem wpList_cap_lit (x : Operand) (ho : o.op = .load 26 x) (hx : a.eval x = .pointer (some ⟨g, 52, none⟩)) (hw : Region.wanted o (yielded ops a.tmps) = true) (hB : CapB w g c lit)
 (h : wpList Tryz.prog ops Q rest (a.put o.dst lit) w) : wpList Tryz.prog ops Q (o :: rest) a w :=
 wpList_go hw fun _ hK => wp_load_one _ x ho g 52 hx _ Tryz.underlying26 rfl _ hB.lit_ (hK _ _ h)
theorem wpList_cap_key (x : Operand) (ho : o.op = .load 23 x) (hx : a.eval x = .pointer (some ⟨g, 1, none⟩)) (hw : Region.wanted o (yielded ops a.tmps) = true) (hB : CapB w g c lit)
 (h : wpList Tryz.prog ops Q rest (a.put o.dst (.agg (u8s c.key).toArray)) w) : wpList Tryz.prog ops Q (o :: rest) a w :=
 wpList_go hw fun _ hK => wp_load_mid _ x ho g 1 hx _ _ hB.keyRange Tryz.underlying23 rfl (by rw [u8s_len, hB.keyL]; exact size_key) (hK _ _ h)
theorem wpList_cap_fp (x : Operand) (ho : o.op = .load 25 x) (hx : a.eval x = .pointer (some ⟨g, 17, none⟩)) (hw : Region.wanted o (yielded ops a.tmps) = true) (hB : CapB w g c lit)
 (h : wpList Tryz.prog ops Q rest (a.put o.dst (.agg (u8s c.fp).toArray)) w) : wpList Tryz.prog ops Q (o :: rest) a w :=
 wpList_go hw fun _ hK => wp_load_mid _ x ho g 17 hx _ _ hB.fpRange Tryz.underlying25 rfl (by rw [u8s_len, hB.fpL]; exact size_hash) (hK _ _ h)
theorem wpList_cap_all (x : Operand) (ho : o.op = .load 28 x) (hx : a.eval x = .pointer (some ⟨g, 0, none⟩)) (hw : Region.wanted o (yielded ops a.tmps) = true) (hB : CapB w g c lit)
 (h : wpList Tryz.prog ops Q rest (a.put o.dst (capV c lit)) w) : wpList Tryz.prog ops Q (o :: rest) a w :=
 wpList_go hw fun _ hK => wp_load_mid _ x ho g 0 hx _ _ (blk_range hB.blk 0 _ (fun j u hu => by rw [Nat.zero_add]; exact hu)) Tryz.underlying28 rfl (by rw [cc_len lit hB.keyL hB.fpL]; exact size_cap) (hK _ _ h)
theorem wpList_cap_new (x : Operand) (ho : o.op = .box 28 x) (hx : a.eval x = capV c lit) (hgd : o.guard = none) (h1 : c.key.length = 16) (h2 : c.fp.length = 32) (h3 : lit.oneCell' = true)
 (h : ∀ w', CapB w' w.heap.size c lit → Below w.heap.size w w' → w'.heap.size = w.heap.size + 1 → wpList Tryz.prog ops Q rest (a.put o.dst (.pointer (some ⟨w.heap.size, 0, none⟩))) w') : wpList Tryz.prog ops Q (o :: rest) a w :=
 Great.wpList_boxTo hgd _ x ho _ rfl _ rfl (capCells c lit).toArray (by rw [hx]; rfl) (h _ (CapB.new_ w h1 h2 h3) ((Below.refl _ _).alloc (Nat.le_refl _) _) (by simp))
theorem wpList_cap_zero (ho : o.op = .alloc 28) (hgd : o.guard = none)
 (h : ∀ w', CapB w' w.heap.size CapD.none_ (.slice none 0 0) → Below w.heap.size w w' → w'.heap.size = w.heap.size + 1 → wpList Tryz.prog ops Q rest (a.put o.dst (.pointer (some ⟨w.heap.size, 0, none⟩))) w') : wpList Tryz.prog ops Q (o :: rest) a w :=
 wpList_alloc_blk hgd _ ho _ zero_cap fun w' h1 h2 h3 => h w' ⟨h1, rfl, rfl, rfl⟩ h2 h3
theorem wpList_cap_put (x y : Operand) (ho : o.op = .store 3 x y) (off : Nat) (hx : a.eval x = .pointer (some ⟨g, off, none⟩)) (hgd : o.guard = none) (hB : CapB w g c lit) (n : Int) (hy : a.eval y = .int .i64 n) (c' : CapD) (hn : capPut c n off = some c')
 (h : ∀ w', CapB w' g c' lit → w.grownBy w' (some g) → w'.heap.size = w.heap.size → wpList Tryz.prog ops Q rest (a.put o.dst undef) w') : wpList Tryz.prog ops Q (o :: rest) a w := by
 have hlt : off < 53 := by
  unfold capPut at hn
  split at hn <;> first | omega | cases hn
 have hcell : w.cell? ⟨g, off, none⟩ = some ((capCells c lit)[off]'(by rw [cc_len lit hB.keyL hB.fpL]; exact hlt)) := by rw [hB.blk.cell]; exact List.getElem?_eq_getElem _
 have hg := grown_setCells (g := g) [Value.int .i64 n] w off
 refine wpList_plain hgd fun _ hK => wp_store_one _ x y ho g off hx _ hy (by rw [hcell]; rfl) (hB.blk.frozen _) rfl size_int (hK _ _ (h _ ⟨?_, by rw [(capPut_len hn).1]; exact hB.keyL, by rw [(capPut_len hn).2]; exact hB.fpL, hB.one⟩ hg.1 hg.2))
 rw [← cc_put hB.keyL hB.fpL hn];exact hB.blk.set_ _ _
theorem wpList_cap_putLit (x y : Operand) (ho : o.op = .store 26 x y) (hx : a.eval x = .pointer (some ⟨g, 52, none⟩)) (hgd : o.guard = none) (hB : CapB w g c lit) (l' : Value) (hy : a.eval y = l') (h1 : l'.oneCell' = true) (zs : List Int)
 (h : ∀ w', CapB w' g { c with lit := zs } l' → w.grownBy w' (some g) → w'.heap.size = w.heap.size → wpList Tryz.prog ops Q rest (a.put o.dst undef) w') : wpList Tryz.prog ops Q (o :: rest) a w := by
 have hg := grown_setCells (g := g) [l'] w 52
 refine wpList_plain hgd fun _ hK => wp_store_one _ x y ho g 52 hx _ hy (by rw [hB.lit_]; rfl) (hB.blk.frozen _) h1 size_row8 (hK _ _ (h _ ⟨?_, hB.keyL, hB.fpL, h1⟩ hg.1 hg.2))
 have := hB.blk.set_ 52 l'
 rw [cc_putLit hB.keyL hB.fpL] at this
 exact this
theorem wpList_cap_putKey (x y : Operand) (ho : o.op = .store 23 x y) (hx : a.eval x = .pointer (some ⟨g, 1, none⟩)) (hgd : o.guard = none) (hB : CapB w g c lit) (k : List Int) (hy : a.eval y = .agg (u8s k).toArray) (hk : k.length = 16)
 (h : ∀ w', CapB w' g { c with key := k } lit → w.grownBy w' (some g) → w'.heap.size = w.heap.size → wpList Tryz.prog ops Q rest (a.put o.dst undef) w') : wpList Tryz.prog ops Q (o :: rest) a w :=
 wpList_store_blk hgd _ x y ho g 1 (u8s k) hx hy _ _ hB.blk (by rw [cc_len lit hB.keyL hB.fpL, u8s_len]; omega) (by rw [u8s_len, hk]; exact size_key) (u8s_one _)
  fun w' h1 h2 h3 => h w' ⟨by rw [cc_putKey hB.keyL k hk] at h1; exact h1, hk, hB.fpL, hB.one⟩ h2 h3
theorem wpList_cap_putFp (x y : Operand) (ho : o.op = .store 25 x y) (hx : a.eval x = .pointer (some ⟨g, 17, none⟩)) (hgd : o.guard = none) (hB : CapB w g c lit) (k : List Int) (hy : a.eval y = .agg (u8s k).toArray) (hk : k.length = 32)
 (h : ∀ w', CapB w' g { c with fp := k } lit → w.grownBy w' (some g) → w'.heap.size = w.heap.size → wpList Tryz.prog ops Q rest (a.put o.dst undef) w') : wpList Tryz.prog ops Q (o :: rest) a w :=
 wpList_store_blk hgd _ x y ho g 17 (u8s k) hx hy _ _ hB.blk (by rw [cc_len lit hB.keyL hB.fpL, u8s_len]; omega) (by rw [u8s_len, hk]; exact size_hash) (u8s_one _)
  fun w' h1 h2 h3 => h w' ⟨by rw [cc_putFp hB.keyL hB.fpL k hk] at h1; exact h1, hB.keyL, hk, hB.one⟩ h2 h3
theorem wpList_cap_putAll (x y : Operand) (ho : o.op = .store 28 x y) (hx : a.eval x = .pointer (some ⟨g, 0, none⟩)) (hgd : o.guard = none) (hB : CapB w g c lit) (c' : CapD) (l' : Value) (hy : a.eval y = capV c' l')
 (h1 : c'.key.length = 16) (h2 : c'.fp.length = 32) (h3 : l'.oneCell' = true)
 (h : ∀ w', CapB w' g c' l' → w.grownBy w' (some g) → w'.heap.size = w.heap.size → wpList Tryz.prog ops Q rest (a.put o.dst undef) w') : wpList Tryz.prog ops Q (o :: rest) a w :=
 wpList_store_blk hgd _ x y ho g 0 (capCells c' l') hx hy _ _ hB.blk (by rw [cc_len lit hB.keyL hB.fpL, cc_len l' h1 h2]; omega) (by rw [cc_len l' h1 h2]; exact size_cap) (CapB.ones (CapB.new_ w h1 h2 h3))
  fun w' a1 a2 a3 => h w' ⟨by rw [lset_all _ _ (by rw [cc_len lit hB.keyL hB.fpL, cc_len l' h1 h2])] at a1; exact a1, h1, h2, h3⟩ a2 a3
theorem built_key : Tryz.prog.built 23 [] = some (u8s (zeros 16)).toArray := by kernel_rfl
theorem built_hash : Tryz.prog.built 25 [] = some (u8s (zeros 32)).toArray := by kernel_rfl
theorem built_cap : Tryz.prog.built 28 [] = some (capCells CapD.none_ (.slice none 0 0)).toArray := by kernel_rfl
theorem wpList_zero_key (ho : o.op = .build 23 #[]) (hw : Region.wanted o (yielded ops a.tmps) = true) (h : wpList Tryz.prog ops Q rest (a.put o.dst (.agg (u8s (zeros 16)).toArray)) w) : wpList Tryz.prog ops Q (o :: rest) a w :=
 wpList_go hw fun _ hK => wp_build _ #[] ho (by simp [built_key]) (by simp only [List.map_toArray, List.map_nil, built_key, Option.getD_some]; exact hK _ _ h)
theorem wpList_zero_hash (ho : o.op = .build 25 #[]) (hw : Region.wanted o (yielded ops a.tmps) = true) (h : wpList Tryz.prog ops Q rest (a.put o.dst (.agg (u8s (zeros 32)).toArray)) w) : wpList Tryz.prog ops Q (o :: rest) a w :=
 wpList_go hw fun _ hK => wp_build _ #[] ho (by simp [built_hash]) (by simp only [List.map_toArray, List.map_nil, built_hash, Option.getD_some]; exact hK _ _ h)
theorem wpList_none_cap (ho : o.op = .build 28 #[]) (hw : Region.wanted o (yielded ops a.tmps) = true) (h : wpList Tryz.prog ops Q rest (a.put o.dst (capV CapD.none_ (.slice none 0 0))) w) : wpList Tryz.prog ops Q (o :: rest) a w :=
 wpList_go hw fun _ hK => wp_build _ #[] ho (by simp [built_cap]) (by simp only [List.map_toArray, List.map_nil, built_cap, Option.getD_some]; exact hK _ _ h)
theorem wpList_eql_key (x y : Operand) (t' : TypeId) (ho : o.op = .binOp .eql 23 x y t') (xs ys : List Int) (hx : a.eval x = .agg (u8s xs).toArray) (hy : a.eval y = .agg (u8s ys).toArray)
 (hw : Region.wanted o (yielded ops a.tmps) = true) (hxl : xs.length = 16) (hyl : ys.length = 16) (b : Bool) (hb : decide (xs = ys) = b)
 (h : wpList Tryz.prog ops Q rest (a.put o.dst (.bool b)) w) : wpList Tryz.prog ops Q (o :: rest) a w :=
 wpList_go hw fun _ hK => wp_value _ (by
  unfold execOp;have := run_eql_arr (P := Tryz.prog) w Tryz.underlying23 Tryz.underlying5 (by kernel_rfl) xs ys hxl hyl
  rw [hb] at this
  simp only [ho, hx, hy, u8s, Sem.run_bind, run_eqGuard_agg w _ _ _ _ _ _ (show Tryz.prog.eqGuardType Tryz.prog.depth 23 = false by kernel_rfl), this, Result.andThen_ok, Sem.run_pure]) (hK _ _ h)
theorem wpList_eql_hash (x y : Operand) (t' : TypeId) (ho : o.op = .binOp .eql 25 x y t') (xs ys : List Int) (hx : a.eval x = .agg (u8s xs).toArray) (hy : a.eval y = .agg (u8s ys).toArray)
 (hw : Region.wanted o (yielded ops a.tmps) = true) (hxl : xs.length = 32) (hyl : ys.length = 32) (b : Bool) (hb : decide (xs = ys) = b)
 (h : wpList Tryz.prog ops Q rest (a.put o.dst (.bool b)) w) : wpList Tryz.prog ops Q (o :: rest) a w :=
 wpList_go hw fun _ hK => wp_value _ (by
  unfold execOp;have := run_eql_arr (P := Tryz.prog) w Tryz.underlying25 Tryz.underlying5 (by kernel_rfl) xs ys hxl hyl
  rw [hb] at this
  simp only [ho, hx, hy, u8s, Sem.run_bind, run_eqGuard_agg w _ _ _ _ _ _ (show Tryz.prog.eqGuardType Tryz.prog.depth 25 = false by kernel_rfl), this, Result.andThen_ok, Sem.run_pure]) (hK _ _ h)
end
end Go.Proofs.YthdjgebbjogmiaaGreatDoor
