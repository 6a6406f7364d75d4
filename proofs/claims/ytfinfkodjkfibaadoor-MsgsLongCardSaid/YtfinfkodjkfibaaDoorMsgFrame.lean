/- What comes in: replies, requests, slices of blobs and of tests, as data. No condition. -/
import Derived.Test.YtfinfkodjkfibaaDoorFrameBytes
import Derived.Test.YtfinfkodjkfibaaDoorFrameArr
import Derived.Test.YtfinfkodjkfibaaDoorReqAll
import Derived.Deep.SlicePairs
namespace Go.Proofs.YtfinfkodjkfibaaDoor
open Go Go.RowKit Go.ChangeShapes Go.WideShapes Go.ChangeAt
set_option linter.unusedVariables false
section
variable {H : Type} {enc : TypeId × Value → H} {W : World} {d : DataW H} {p : List MemPlace} {base : Nat}
set_option maxRecDepth 100000 in
theorem read_u8cells {t : TypeId} {n fuel : Nat} {cl : List Value} {x : DataW H × List MemPlace} (ht : Tryd.prog.underlying t = some (.array n 5)) (hc : Tryd.prog.cellsOf t = n) 
    (hf : DataW.trod enc Tryd.prog W base (fun _ => true) true fuel t cl = some x) : ∃ z : List Int, cl = u8s z ∧ z.length = n ∧ Bytes z := by
  obtain ⟨xs, m, rfl, hx, hl, hn, hi⟩ := DataW.trod_array ht hf
  have hl' : cl.length = n := by rw [hl, hc]
  have hcu : Tryd.prog.cellsOf 5 = 1 := by kernel_rfl
  have key : ∀ i (hi : i < n), ∃ a : Int, cl[i]? = some (.int .u8 a) ∧ (Lit.int .u8 a).wf = true := by
    intro i hi16
    have h1 := hi i hi16
    rw [hcu, List.getElem?_eq_getElem (by omega)] at h1
    obtain ⟨a, ea, _, wa⟩ := DataW.trod_int Tryd.underlying5 h1
    refine ⟨a, ?_, wa⟩
    have := congrArg (fun l => l[0]?) ea
    simpa [List.getElem?_take, List.getElem?_drop] using this
  refine ⟨cl.map (fun v => match v with | .int _ n => n | _ => 0), ?_, by simpa using hl', fun x hx => ?_⟩
  · simp only [u8s, List.map_map]
    refine List.ext_getElem? fun i => ?_
    rw [List.getElem?_map]
    by_cases hi : i < n
    · obtain ⟨a, ha, _⟩ := key i hi
      rw [ha]; rfl
    · rw [List.getElem?_eq_none (by omega)]; rfl
  · obtain ⟨y, hy, rfl⟩ := List.mem_map.1 hx
    obtain ⟨i, hi, rfl⟩ := List.getElem_of_mem hy
    obtain ⟨a, ha, wa⟩ := key i (by omega)
    rw [List.getElem?_eq_getElem hi] at ha
    injection ha with ha
    rw [ha]
    exact u8_wf wa
set_option maxRecDepth 100000 in
theorem read_u8row {fuel : Nat} {cl : List Value} {x : DataW H × List MemPlace} (hf : DataW.trod enc Tryd.prog W base (fun _ => true) true fuel 26 cl = some x) :
    ∃ (v : Value) (xs : List Int), cl = [v] ∧ Bs W W.heap.size v xs ∧ Bytes xs := by
  rcases open_ints Tryd.underlying26 Tryd.underlying5 (by kernel_rfl) hf with ⟨hcs, _⟩ | ⟨x, l, c, zs, hcs, _, hl, hm, hz, _, hcell, hwz⟩
  · exact ⟨_, [], hcs, Bs.nil_ _ _, fun x hx => by simp at hx⟩
  · exact ⟨_, zs.take l, hcs, bytes_mk (by simpa using hz) hl hm (fun _ => ⟨x, rfl, fun i hi => hcell i (by simp at hz; omega)⟩), fun x hx => u8_wf (hwz x (List.mem_of_mem_take hx))⟩
/-- What a list of blobs' type says of what comes in. -/
def InB (l : List Msg.Blb) : Prop := ∀ x ∈ l, Bytes x.2 ∧ In64 x.1
set_option maxRecDepth 100000 in
theorem read_blobs {fuel : Nat} {cl : List Value} {x : DataW H × List MemPlace} (hf : DataW.trod enc Tryd.prog W base (fun _ => true) true fuel 23 cl = some x) :
    ∃ (v : Value) (l : List Msg.Blb), cl = [v] ∧ BlbsB W W.heap.size v l ∧ InB l := by
  rcases Go.Deep.open_slice_pairs Tryd.underlying23 Tryd.underlying44 (by kernel_rfl) rfl rfl (by kernel_rfl) (by kernel_rfl) hf with ⟨hcs, _⟩ | ⟨a, len, cap, m, n, V0, V1, D0, D1, P0, P1, hcs, _, hl, hm, hmm, _, hx⟩
  · exact ⟨_, [], hcs, BlbsB.nil_ _ _, fun x hx => by cases hx⟩
  have hmm' : m = cap := by simpa using hmm
  have each : ∀ i, i < len → ∃ q : Int × List Int, W.cell? (a.add (i * 2)) = some (.int .i64 q.1) ∧ W.cell? (a.add (i * 2 + 1)) = some (V1 i) ∧ Bs W W.heap.size (V1 i) q.2 ∧ Bytes q.2 ∧ In64 q.1 := fun i hi => by
    obtain ⟨c0, c1, t0, t1⟩ := hx i (by omega)
    obtain ⟨k, e0, _, w0⟩ := DataW.trod_int Tryd.underlying3 t0
    obtain ⟨u, xs, e1, hb, hby⟩ := read_u8row t1
    injection e0 with e0
    injection e1 with e1
    exact ⟨(k, xs), by rw [← e0]; exact c0, c1, by rw [e1]; exact hb, hby, in64_wf w0⟩
  obtain ⟨q, hq⟩ := Go.Deep.choose_lt each
  refine ⟨_, (List.range len).map q, hcs, ⟨(List.range len).map V1, by simp, ⟨some a, cap, by simp, by simpa using hl, hm, ?_, fun hp => ?_⟩, fun i hi => ?_⟩, fun y hy => ?_⟩
  · rw [cellsB_len _ _ (by simp)]; simp
  · simp only [List.length_map, List.length_range] at hp
    obtain ⟨b, o, spot⟩ := a
    have h0 := (hq 0 hp).1
    have hspot : spot = none := by simpa [Addr.add] using World.cell?_spot h0
    subst hspot
    refine ⟨b, o, rfl, ?_, fun j u hu => ?_⟩
    · rw [add_off] at h0
      exact block_lt_of_cell h0
    · have hj := (List.getElem?_eq_some_iff.1 hu).1
      rw [cellsB_len _ _ (by simp)] at hj
      simp only [List.length_map, List.length_range] at hj
      obtain ⟨c0, c1, _⟩ := hq (j / 2) (by omega)
      rw [add_off] at c0 c1
      obtain ⟨g0, g1⟩ := cellsB_get (((List.range len).map q).map Prod.fst) ((List.range len).map V1) (by simp) (j / 2) (by simp; omega)
      rcases Nat.mod_two_eq_zero_or_one j with he | he
      · have ej : j = j / 2 * 2 := by omega
        rw [ej] at hu ⊢
        rw [g0] at hu
        injection hu with hu
        rw [← hu]
        simpa using c0
      · have ej : j = j / 2 * 2 + 1 := by omega
        rw [ej] at hu ⊢
        rw [g1] at hu
        injection hu with hu
        rw [← hu]
        simpa using c1
  · simp only [List.length_map, List.length_range] at hi
    refine ⟨V1 i, by simp [hi], ?_⟩
    simp only [List.getElem_map, List.getElem_range]
    exact (hq i hi).2.2.1
  · obtain ⟨i, hi, rfl⟩ := List.mem_map.1 hy
    have := hq i (List.mem_range.1 hi)
    exact ⟨this.2.2.2.1, this.2.2.2.2⟩
set_option maxRecDepth 100000 in
theorem read_reply {v : Value} {r : Reach} {b0 : Nat} (hv : Value.okWide Tryd.prog W r b0 25 v) (h : DataW.Trod enc Tryd.prog W base (fun _ => true) true 25 v d p) :
    ∃ (c : Int × List Msg.Blb) (u : Value), v = .agg #[.int .i64 c.1, u] ∧ (In64 c.1 ∧ InB c.2) ∧ BlbsB W W.heap.size u c.2 := by
  obtain ⟨cs, rfl, hsz⟩ := okWide_struct Tryd.underlying25 hv
  obtain ⟨fuel, hf⟩ := h
  obtain ⟨xs, n, _, _, hl, hlen, hi⟩ := DataW.trod_struct Tryd.underlying25 hf
  have hcells : (Value.agg cs).cells = cs := rfl
  rw [hcells] at hl hi
  have hxl : xs.length = 2 := by rw [hlen]; rfl
  have h0 := hi 0 _ rfl; rw [List.getElem?_eq_getElem (by omega)] at h0
  have h1 := hi 1 _ rfl; rw [List.getElem?_eq_getElem (by omega)] at h1
  obtain ⟨a0, e0, _, w0⟩ := DataW.trod_int Tryd.underlying22 h0
  obtain ⟨u, l, e1, hb, hin⟩ := read_blobs h1
  have c0 : Tryd.prog.cellsOf 22 = 1 := by kernel_rfl
  have c1 : Tryd.prog.cellsOf 23 = 1 := by kernel_rfl
  have c2 : Tryd.prog.cellsOf 25 = 2 := by kernel_rfl
  replace e0 : (cs.toList.drop 0).take (Tryd.prog.cellsOf 22) = [.int .i64 a0] := e0
  replace e1 : (cs.toList.drop 1).take (Tryd.prog.cellsOf 23) = [u] := e1
  rw [c0] at e0
  rw [c1] at e1
  refine ⟨(a0, l), u, ?_, ⟨in64_wf w0, hin⟩, hb⟩
  congr 1
  apply Array.ext'
  have hl2 : cs.toList.length = 2 := by rw [hl, c2]
  match hcs : cs.toList, hl2, e0, e1 with
  | [x, y], _, e0, e1 =>
    simp at e0 e1
    subst e0 e1
    rfl
end
end Go.Proofs.YtfinfkodjkfibaaDoor
