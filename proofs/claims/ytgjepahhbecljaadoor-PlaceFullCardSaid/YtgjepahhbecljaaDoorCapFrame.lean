/- A capability that comes in: its cells as data. No condition. -/
import Derived.Test.YtgjepahhbecljaaDoorCapsLaw
import Derived.Test.YtgjepahhbecljaaDoorFrameBytes
import Derived.Test.YtgjepahhbecljaaDoorFrameArr
namespace Go.Proofs.YtgjepahhbecljaaDoor
open Go Go.RowKit Go.ChangeShapes Go.WideShapes Go.ChangeAt

/-- A capability's cells. -/
def capCells (c : CapD) (lit : Value) : List Value := Value.int .i64 c.kind :: (u8s c.key ++ (u8s c.fp ++ [Value.int .i64 c.K, Value.int .i64 c.N, Value.int .i64 c.S, lit]))
def capV (c : CapD) (lit : Value) : Value := .agg (capCells c lit).toArray

section
variable {H : Type} {enc : TypeId × Value → H} {W : World} {d : DataW H} {p : List MemPlace} {base : Nat}
set_option maxRecDepth 100000 in
theorem read_arr_cells {t : TypeId} {n fuel : Nat} {cl : List Value} {x : DataW H × List MemPlace} (ht : Tryd.prog.underlying t = some (.array n 5)) (hc : Tryd.prog.cellsOf t = n) 
    (hf : DataW.trod enc Tryd.prog W base (fun _ => true) true fuel t cl = some x) : ∃ z : List Int, cl = u8s z ∧ z.length = n ∧ Bytes z := by
  obtain ⟨xs, m, rfl, hx, hl, hn, hi⟩ := DataW.trod_array ht hf
  have hl' : cl.length = n := by rw [hl, hc]
  have hcu : Tryd.prog.cellsOf 5 = 1 := by kernel_rfl
  have key : ∀ i (hi : i < n), ∃ a : Int, cl[i]? = some (.int .u8 a) ∧ (Lit.int .u8 a).wf = true := by
    intro i hi16
    have h1 := hi i hi16
    rw [hcu, List.getElem?_eq_getElem (by omega)] at h1
    obtain ⟨a, ea, _, wa⟩ := DataW.trod_int Tryd.underlying5 h1
    refine ⟨a, ?_, wa⟩
    have := congrArg (fun l => l[0]?) ea
    simpa [List.getElem?_take, List.getElem?_drop] using this
  refine ⟨cl.map (fun v => match v with | .int _ n => n | _ => 0), ?_, by simpa using hl', fun x hx => ?_⟩
  · simp only [u8s, List.map_map]
    refine List.ext_getElem? fun i => ?_
    rw [List.getElem?_map]
    by_cases hi : i < n
    · obtain ⟨a, ha, _⟩ := key i hi
      rw [ha]; rfl
    · rw [List.getElem?_eq_none (by omega)]; rfl
  · obtain ⟨y, hy, rfl⟩ := List.mem_map.1 hx
    obtain ⟨i, hi, rfl⟩ := List.getElem_of_mem hy
    obtain ⟨a, ha, wa⟩ := key i (by omega)
    rw [List.getElem?_eq_getElem hi] at ha
    injection ha with ha
    rw [ha]
    exact u8_wf wa

set_option maxRecDepth 100000 in
theorem read_row8 {fuel : Nat} {cl : List Value} {x : DataW H × List MemPlace} (hf : DataW.trod enc Tryd.prog W base (fun _ => true) true fuel 26 cl = some x) :
    ∃ (v : Value) (xs : List Int), cl = [v] ∧ Bs W W.heap.size v xs ∧ Bytes xs := by
  rcases open_ints Tryd.underlying26 Tryd.underlying5 (by kernel_rfl) hf with ⟨hcs, _⟩ | ⟨x, l, c, zs, hcs, _, hl, hm, hz, _, hcell, hwz⟩
  · exact ⟨_, [], hcs, Bs.nil_ _ _, fun x hx => by simp at hx⟩
  · exact ⟨_, zs.take l, hcs, bytes_mk (by simpa using hz) hl hm (fun _ => ⟨x, rfl, fun i hi => hcell i (by simp at hz; omega)⟩), fun x hx => u8_wf (hwz x (List.mem_of_mem_take hx))⟩

theorem cut7 (l : List Value) : l = l.take 1 ++ ((l.drop 1).take 16 ++ ((l.drop 17).take 32 ++ ((l.drop 49).take 1 ++ ((l.drop 50).take 1 ++ ((l.drop 51).take 1 ++ l.drop 52))))) := by
  have h : ∀ (n k : Nat), l.drop n = (l.drop n).take k ++ l.drop (n + k) := fun n k => by
    conv => lhs; rw [← List.take_append_drop k (l.drop n)]
    rw [List.drop_drop]
  conv => lhs; rw [← List.take_append_drop 1 l, h 1 16, h 17 32, h 49 1, h 50 1, h 51 1]

/-- What a capability's type says of what comes in. -/
structure CapD.In (c : CapD) : Prop extends c.Wf where
  kindI : In64 c.kind
  KI : In64 c.K
  NI : In64 c.N
  SI : In64 c.S

set_option maxRecDepth 100000 in
theorem read_cap {v : Value} {r : Reach} {b0 : Nat} (hv : Value.okWide Tryd.prog W r b0 28 v) (h : DataW.Trod enc Tryd.prog W base (fun _ => true) true 28 v d p) :
    ∃ (c : CapD) (lit : Value), v = capV c lit ∧ c.In ∧ Bs W W.heap.size lit c.lit := by
  obtain ⟨cs, rfl, hsz⟩ := okWide_struct Tryd.underlying28 hv
  obtain ⟨fuel, hf⟩ := h
  obtain ⟨xs, n, _, _, hl, hlen, hi⟩ := DataW.trod_struct Tryd.underlying28 hf
  have hcells : (Value.agg cs).cells = cs := rfl
  rw [hcells] at hl hi
  have hxl : xs.length = 7 := by rw [hlen]; rfl
  have g : ∀ i (h : i < 7), xs[i]? = some (xs[i]'(by omega)) := fun i h => List.getElem?_eq_getElem (by omega)
  have h0 := hi 0 _ rfl; rw [g 0 (by omega)] at h0
  have h1 := hi 1 _ rfl; rw [g 1 (by omega)] at h1
  have h2 := hi 2 _ rfl; rw [g 2 (by omega)] at h2
  have h3 := hi 3 _ rfl; rw [g 3 (by omega)] at h3
  have h4 := hi 4 _ rfl; rw [g 4 (by omega)] at h4
  have h5 := hi 5 _ rfl; rw [g 5 (by omega)] at h5
  have h6 := hi 6 _ rfl; rw [g 6 (by omega)] at h6
  clear hi g
  obtain ⟨a0, e0, _, w0⟩ := DataW.trod_int Tryd.underlying3 h0
  obtain ⟨z1, e1, l1, b1⟩ := read_arr_cells Tryd.underlying23 (by kernel_rfl) h1
  obtain ⟨z2, e2, l2, b2⟩ := read_arr_cells Tryd.underlying25 (by kernel_rfl) h2
  obtain ⟨a3, e3, _, w3⟩ := DataW.trod_int Tryd.underlying3 h3
  obtain ⟨a4, e4, _, w4⟩ := DataW.trod_int Tryd.underlying3 h4
  obtain ⟨a5, e5, _, w5⟩ := DataW.trod_int Tryd.underlying3 h5
  obtain ⟨v6, z6, e6, r6, b6⟩ := read_row8 h6
  refine ⟨⟨a0, z1, z2, a3, a4, a5, z6⟩, v6, ?_, ⟨⟨l1, b1, l2, b2, b6⟩, in64_wf w0, in64_wf w3, in64_wf w4, in64_wf w5⟩, r6⟩
  have c1 : Tryd.prog.cellsOf 3 = 1 := by kernel_rfl
  have c2 : Tryd.prog.cellsOf 23 = 16 := by kernel_rfl
  have c3 : Tryd.prog.cellsOf 25 = 32 := by kernel_rfl
  have c4 : Tryd.prog.cellsOf 26 = 1 := by kernel_rfl
  have c5 : Tryd.prog.cellsOf 28 = 53 := by kernel_rfl
  replace e0 : (cs.toList.drop 0).take (Tryd.prog.cellsOf 3) = [.int .i64 a0] := e0
  replace e1 : (cs.toList.drop 1).take (Tryd.prog.cellsOf 23) = u8s z1 := e1
  replace e2 : (cs.toList.drop 17).take (Tryd.prog.cellsOf 25) = u8s z2 := e2
  replace e3 : (cs.toList.drop 49).take (Tryd.prog.cellsOf 3) = [.int .i64 a3] := e3
  replace e4 : (cs.toList.drop 50).take (Tryd.prog.cellsOf 3) = [.int .i64 a4] := e4
  replace e5 : (cs.toList.drop 51).take (Tryd.prog.cellsOf 3) = [.int .i64 a5] := e5
  replace e6 : (cs.toList.drop 52).take (Tryd.prog.cellsOf 26) = [v6] := e6
  rw [c1] at e0 e3 e4 e5
  rw [c2] at e1
  rw [c3] at e2
  rw [c4] at e6
  have e6' : cs.toList.drop 52 = [v6] := by
    rw [← e6, List.take_of_length_le (by rw [List.length_drop, hl, c5]; omega)]
  unfold capV capCells
  congr 1
  apply Array.ext'
  rw [cut7 cs.toList]
  try simp only [List.drop_zero] at e0
  rw [e0, e1, e2, e3, e4, e5, e6']
  simp
end
end Go.Proofs.YtgjepahhbecljaaDoor
