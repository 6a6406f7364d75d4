/- What comes in: replies, requests, slices of blobs and of tests, as data. No condition.
What comes in: requests and slices of tests, as data. No condition. -/
import Derived.Test.YtfinfkodjkfibaaDoorFrames
import Derived.Test.YtfinfkodjkfibaaDoorReqAll
import Derived.Deep.SlicePairs
namespace Go.Proofs.YtfinfkodjkfibaaDoor
open Go Go.RowKit Go.ChangeShapes Go.WideShapes Go.ChangeAt
set_option linter.unusedVariables false
section
variable {H : Type} {enc : TypeId × Value → H} {W : World} {d : DataW H} {p : List MemPlace} {base : Nat}
set_option maxRecDepth 100000 in
theorem read_u8cells {t : TypeId} {n fuel : Nat} {cl : List Value} {x : DataW H × List MemPlace} (ht : Tryd.prog.underlying t = some (.array n 5)) (hc : Tryd.prog.cellsOf t = n) 
    (hf : DataW.trod enc Tryd.prog W base (fun _ => true) true fuel t cl = some x) : ∃ z : List Int, cl = u8s z ∧ z.length = n ∧ Bytes z := by
  obtain ⟨xs, m, rfl, hx, hl, hn, hi⟩ := DataW.trod_array ht hf
  have hl' : cl.length = n := by rw [hl, hc]
  have hcu : Tryd.prog.cellsOf 5 = 1 := by kernel_rfl
  have key : ∀ i (hi : i < n), ∃ a : Int, cl[i]? = some (.int .u8 a) ∧ (Lit.int .u8 a).wf = true := by
    intro i hi16
    have h1 := hi i hi16
    rw [hcu, List.getElem?_eq_getElem (by omega)] at h1
    obtain ⟨a, ea, _, wa⟩ := DataW.trod_int Tryd.underlying5 h1
    refine ⟨a, ?_, wa⟩
    have := congrArg (fun l => l[0]?) ea
    simpa [List.getElem?_take, List.getElem?_drop] using this
  refine ⟨cl.map (fun v => match v with | .int _ n => n | _ => 0), ?_, by simpa using hl', fun x hx => ?_⟩
  · simp only [u8s, List.map_map]
    refine List.ext_getElem? fun i => ?_
    rw [List.getElem?_map]
    by_cases hi : i < n
    · obtain ⟨a, ha, _⟩ := key i hi
      rw [ha]; rfl
    · rw [List.getElem?_eq_none (by omega)]; rfl
  · obtain ⟨y, hy, rfl⟩ := List.mem_map.1 hx
    obtain ⟨i, hi, rfl⟩ := List.getElem_of_mem hy
    obtain ⟨a, ha, wa⟩ := key i (by omega)
    rw [List.getElem?_eq_getElem hi] at ha
    injection ha with ha
    rw [ha]
    exact u8_wf wa
set_option maxRecDepth 100000 in
theorem read_u8row {fuel : Nat} {cl : List Value} {x : DataW H × List MemPlace} (hf : DataW.trod enc Tryd.prog W base (fun _ => true) true fuel 26 cl = some x) :
    ∃ (v : Value) (xs : List Int), cl = [v] ∧ Bs W W.heap.size v xs ∧ Bytes xs := by
  rcases open_ints Tryd.underlying26 Tryd.underlying5 (by kernel_rfl) hf with ⟨hcs, _⟩ | ⟨x, l, c, zs, hcs, _, hl, hm, hz, _, hcell, hwz⟩
  · exact ⟨_, [], hcs, Bs.nil_ _ _, fun x hx => by simp at hx⟩
  · exact ⟨_, zs.take l, hcs, bytes_mk (by simpa using hz) hl hm (fun _ => ⟨x, rfl, fun i hi => hcell i (by simp at hz; omega)⟩), fun x hx => u8_wf (hwz x (List.mem_of_mem_take hx))⟩
/-- What a list of blobs' type says of what comes in. -/
def InB (l : List Msg.Blb) : Prop := ∀ x ∈ l, Bytes x.2 ∧ In64 x.1
set_option maxRecDepth 100000 in
theorem read_blobs {fuel : Nat} {cl : List Value} {x : DataW H × List MemPlace} (hf : DataW.trod enc Tryd.prog W base (fun _ => true) true fuel 23 cl = some x) :
    ∃ (v : Value) (l : List Msg.Blb), cl = [v] ∧ BlbsB W W.heap.size v l ∧ InB l := by
  rcases Go.Deep.open_slice_pairs Tryd.underlying23 Tryd.underlying44 (by kernel_rfl) rfl rfl (by kernel_rfl) (by kernel_rfl) hf with ⟨hcs, _⟩ | ⟨a, len, cap, m, n, V0, V1, D0, D1, P0, P1, hcs, _, hl, hm, hmm, _, hx⟩
  · exact ⟨_, [], hcs, BlbsB.nil_ _ _, fun x hx => by cases hx⟩
  have hmm' : m = cap := by simpa using hmm
  have each : ∀ i, i < len → ∃ q : Int × List Int, W.cell? (a.add (i * 2)) = some (.int .i64 q.1) ∧ W.cell? (a.add (i * 2 + 1)) = some (V1 i) ∧ Bs W W.heap.size (V1 i) q.2 ∧ Bytes q.2 ∧ In64 q.1 := fun i hi => by
    obtain ⟨c0, c1, t0, t1⟩ := hx i (by omega)
    obtain ⟨k, e0, _, w0⟩ := DataW.trod_int Tryd.underlying3 t0
    obtain ⟨u, xs, e1, hb, hby⟩ := read_u8row t1
    injection e0 with e0
    injection e1 with e1
    exact ⟨(k, xs), by rw [← e0]; exact c0, c1, by rw [e1]; exact hb, hby, in64_wf w0⟩
  obtain ⟨q, hq⟩ := Go.Deep.choose_lt each
  refine ⟨_, (List.range len).map q, hcs, ⟨(List.range len).map V1, by simp, ⟨some a, cap, by simp, by simpa using hl, hm, ?_, fun hp => ?_⟩, fun i hi => ?_⟩, fun y hy => ?_⟩
  · rw [cellsB_len _ _ (by simp)]; simp
  · simp only [List.length_map, List.length_range] at hp
    obtain ⟨b, o, spot⟩ := a
    have h0 := (hq 0 hp).1
    have hspot : spot = none := by simpa [Addr.add] using World.cell?_spot h0
    subst hspot
    refine ⟨b, o, rfl, ?_, fun j u hu => ?_⟩
    · rw [add_off] at h0
      exact block_lt_of_cell h0
    · have hj := (List.getElem?_eq_some_iff.1 hu).1
      rw [cellsB_len _ _ (by simp)] at hj
      simp only [List.length_map, List.length_range] at hj
      obtain ⟨c0, c1, _⟩ := hq (j / 2) (by omega)
      rw [add_off] at c0 c1
      obtain ⟨g0, g1⟩ := cellsB_get (((List.range len).map q).map Prod.fst) ((List.range len).map V1) (by simp) (j / 2) (by simp; omega)
      rcases Nat.mod_two_eq_zero_or_one j with he | he
      · have ej : j = j / 2 * 2 := by omega
        rw [ej] at hu ⊢
        rw [g0] at hu
        injection hu with hu
        rw [← hu]
        simpa using c0
      · have ej : j = j / 2 * 2 + 1 := by omega
        rw [ej] at hu ⊢
        rw [g1] at hu
        injection hu with hu
        rw [← hu]
        simpa using c1
  · simp only [List.length_map, List.length_range] at hi
    refine ⟨V1 i, by simp [hi], ?_⟩
    simp only [List.getElem_map, List.getElem_range]
    exact (hq i hi).2.2.1
  · obtain ⟨i, hi, rfl⟩ := List.mem_map.1 hy
    have := hq i (List.mem_range.1 hi)
    exact ⟨this.2.2.2.1, this.2.2.2.2⟩
set_option maxRecDepth 100000 in
theorem read_reply {v : Value} {r : Reach} {b0 : Nat} (hv : Value.okWide Tryd.prog W r b0 25 v) (h : DataW.Trod enc Tryd.prog W base (fun _ => true) true 25 v d p) :
    ∃ (c : Int × List Msg.Blb) (u : Value), v = .agg #[.int .i64 c.1, u] ∧ (In64 c.1 ∧ InB c.2) ∧ BlbsB W W.heap.size u c.2 := by
  obtain ⟨cs, rfl, hsz⟩ := okWide_struct Tryd.underlying25 hv
  obtain ⟨fuel, hf⟩ := h
  obtain ⟨xs, n, _, _, hl, hlen, hi⟩ := DataW.trod_struct Tryd.underlying25 hf
  have hcells : (Value.agg cs).cells = cs := rfl
  rw [hcells] at hl hi
  have hxl : xs.length = 2 := by rw [hlen]; rfl
  have h0 := hi 0 _ rfl; rw [List.getElem?_eq_getElem (by omega)] at h0
  have h1 := hi 1 _ rfl; rw [List.getElem?_eq_getElem (by omega)] at h1
  obtain ⟨a0, e0, _, w0⟩ := DataW.trod_int Tryd.underlying22 h0
  obtain ⟨u, l, e1, hb, hin⟩ := read_blobs h1
  have c0 : Tryd.prog.cellsOf 22 = 1 := by kernel_rfl
  have c1 : Tryd.prog.cellsOf 23 = 1 := by kernel_rfl
  have c2 : Tryd.prog.cellsOf 25 = 2 := by kernel_rfl
  replace e0 : (cs.toList.drop 0).take (Tryd.prog.cellsOf 22) = [.int .i64 a0] := e0
  replace e1 : (cs.toList.drop 1).take (Tryd.prog.cellsOf 23) = [u] := e1
  rw [c0] at e0
  rw [c1] at e1
  refine ⟨(a0, l), u, ?_, ⟨in64_wf w0, hin⟩, hb⟩
  congr 1
  apply Array.ext'
  have hl2 : cs.toList.length = 2 := by rw [hl, c2]
  match hcs : cs.toList, hl2, e0, e1 with
  | [x, y], _, e0, e1 =>
    simp at e0 e1
    subst e0 e1
    rfl
end
end Go.Proofs.YtfinfkodjkfibaaDoor

namespace Go.Proofs.YtfinfkodjkfibaaDoor
open Go Go.RowKit Go.ChangeShapes Go.WideShapes Go.ChangeAt
set_option linter.unusedVariables false
/-- What a list of tests' type says of what comes in. -/
def InT (l : List Msg.Tst) : Prop := ∀ t ∈ l, t.want.length = 32 ∧ Bytes t.want ∧ In64 t.num
/-- What a request's type says of what comes in. -/
structure InR (q : Msg.Req) : Prop where
  keys : KeysR q
  bi : Bytes q.index
  bs : Bytes q.secret
  be : Bytes q.enable
  kind : In64 q.kind
  ends : In64 q.ends
  tests : InT q.tests
  blobs : InB q.blobs
theorem cut_rq (l : List Value) : l = l.take 1 ++ ((l.drop 1).take 16 ++ ((l.drop 17).take 16 ++ ((l.drop 33).take 1 ++ ((l.drop 34).take 16 ++ ((l.drop 50).take 1 ++ l.drop 51))))) := by
  have h : ∀ (n k : Nat), l.drop n = (l.drop n).take k ++ l.drop (n + k) := fun n k => by
    conv => lhs; rw [← List.take_append_drop k (l.drop n)]
    rw [List.drop_drop]
  conv => lhs; rw [← List.take_append_drop 1 l, h 1 16, h 17 16, h 33 1, h 34 16, h 50 1]
theorem cut_tst (l : List Value) : l = l.take 1 ++ ((l.drop 1).take 1 ++ l.drop 2) := by
  have h : ∀ (n k : Nat), l.drop n = (l.drop n).take k ++ l.drop (n + k) := fun n k => by
    conv => lhs; rw [← List.take_append_drop k (l.drop n)]
    rw [List.drop_drop]
  conv => lhs; rw [← List.take_append_drop 1 l, h 1 1]
section
variable {H : Type} {enc : TypeId × Value → H} {W : World} {d : DataW H} {p : List MemPlace} {base : Nat}
set_option maxRecDepth 100000 in
theorem read_test {fuel : Nat} {cl : List Value} {x : DataW H × List MemPlace} (hf : DataW.trod enc Tryd.prog W base (fun _ => true) true fuel 60 cl = some x) :
    ∃ t : Msg.Tst, cl = tstC t ∧ t.want.length = 32 ∧ Bytes t.want ∧ In64 t.num := by
  obtain ⟨xs, n, _, _, hl, hlen, hi⟩ := DataW.trod_struct Tryd.underlying60 hf
  have hxl : xs.length = 3 := by rw [hlen]; rfl
  have h0 := hi 0 _ rfl; rw [List.getElem?_eq_getElem (by omega)] at h0
  have h1 := hi 1 _ rfl; rw [List.getElem?_eq_getElem (by omega)] at h1
  have h2 := hi 2 _ rfl; rw [List.getElem?_eq_getElem (by omega)] at h2
  obtain ⟨a0, e0, _, w0⟩ := DataW.trod_int Tryd.underlying3 h0
  obtain ⟨b1, e1, _⟩ := DataW.trod_bool Tryd.underlying4 h1
  obtain ⟨z2, e2, l2, b2⟩ := read_u8cells Tryd.underlying58 (by kernel_rfl) h2
  have c0 : Tryd.prog.cellsOf 3 = 1 := by kernel_rfl
  have c1 : Tryd.prog.cellsOf 4 = 1 := by kernel_rfl
  have c2 : Tryd.prog.cellsOf 58 = 32 := by kernel_rfl
  have c3 : Tryd.prog.cellsOf 60 = 34 := by kernel_rfl
  replace e0 : (cl.drop 0).take (Tryd.prog.cellsOf 3) = [.int .i64 a0] := e0
  replace e1 : (cl.drop 1).take (Tryd.prog.cellsOf 4) = [.bool b1] := e1
  replace e2 : (cl.drop 2).take (Tryd.prog.cellsOf 58) = u8s z2 := e2
  rw [c0] at e0
  rw [c1] at e1
  rw [c2] at e2
  refine ⟨⟨a0, b1, z2⟩, ?_, l2, b2, in64_wf w0⟩
  have e2' : cl.drop 2 = u8s z2 := by
    rw [← e2, List.take_of_length_le (by rw [List.length_drop, hl, c3]; omega)]
  rw [cut_tst cl]
  rw [List.drop_zero] at e0
  rw [e0, e1, e2']
  rfl
set_option maxRecDepth 100000 in
theorem read_tests {fuel : Nat} {cl : List Value} {x : DataW H × List MemPlace} (hf : DataW.trod enc Tryd.prog W base (fun _ => true) true fuel 29 cl = some x) :
    ∃ (v : Value) (l : List Msg.Tst), cl = [v] ∧ TstsB W W.heap.size v l ∧ InT l := by
  rcases Go.Deep.open_slice Tryd.underlying29 hf with ⟨hcs, _⟩ | ⟨a, len, cap, m, n, D, Pl, hcs, _, hl, hm, hmm, _, hx⟩
  · exact ⟨_, [], hcs, TstsB.nil_ _ _, fun x hx => by cases hx⟩
  have hmm' : m = cap := by simpa using hmm
  have c3 : Tryd.prog.cellsOf 60 = 34 := by kernel_rfl
  have each : ∀ i, i < len → ∃ t : Msg.Tst, (∀ j u, (tstC t)[j]? = some u → W.cell? (a.add (i * 34 + j)) = some u) ∧ t.want.length = 32 ∧ Bytes t.want ∧ In64 t.num := fun i hi => by
    obtain ⟨cs', h1, h2⟩ := hx i (by omega)
    rw [c3] at h1
    obtain ⟨_, hlen, hcell⟩ := World.cells?_some h1
    obtain ⟨t, e, l2, b2, w0⟩ := read_test h2
    refine ⟨t, fun j u hu => ?_, l2, b2, w0⟩
    have hj : j < cs'.length := by rw [e]; exact (List.getElem?_eq_some_iff.1 hu).1
    have := hcell j (by omega)
    rw [Go.Deep.add_add] at this
    rw [this, e]
    exact hu
  have : Inhabited Msg.Tst := ⟨⟨0, false, []⟩⟩
  obtain ⟨q, hq⟩ := Go.Deep.choose_lt each
  have hw : ∀ t ∈ (List.range len).map q, t.want.length = 32 := fun t ht => by
    obtain ⟨i, hi, rfl⟩ := List.mem_map.1 ht
    exact (hq i (List.mem_range.1 hi)).2.1
  refine ⟨_, (List.range len).map q, hcs, ⟨⟨some a, cap, by simp, by simpa using hl, hm, tsts_len _ hw |>.trans (by simp), fun hp => ?_⟩, hw⟩, fun t ht => ?_⟩
  · simp only [List.length_map, List.length_range] at hp
    obtain ⟨b, o, spot⟩ := a
    have h0 := (hq 0 hp).1 0 _ rfl
    have hspot : spot = none := by simpa [Addr.add] using World.cell?_spot h0
    subst hspot
    refine ⟨b, o, rfl, ?_, fun j u hu => ?_⟩
    · rw [add_off] at h0
      exact block_lt_of_cell h0
    · have hj := (List.getElem?_eq_some_iff.1 hu).1
      rw [tsts_len _ hw] at hj
      simp only [List.length_map, List.length_range] at hj
      have hi : j / 34 < len := by omega
      have hg := (hq (j / 34) hi).1 (j % 34)
      have hlt : j % 34 < 34 := Nat.mod_lt _ (by omega)
      obtain ⟨u', hu'⟩ : ∃ u', (tstC (q (j / 34)))[j % 34]? = some u' := ⟨_, List.getElem?_eq_getElem (by rw [tst_len (hq _ hi).2.1]; exact hlt)⟩
      have hall := tsts_get ((List.range len).map q) hw (j / 34) (by simpa using hi) (j % 34) u' (by simpa using hu')
      have ej : j / 34 * 34 + j % 34 = j := by omega
      rw [ej] at hall
      rw [hall] at hu
      injection hu with hu
      subst hu
      have := hg u' hu'
      rw [ej, add_off] at this
      exact this
  · obtain ⟨i, hi, rfl⟩ := List.mem_map.1 ht
    have := hq i (List.mem_range.1 hi)
    exact ⟨this.2.1, this.2.2.1, this.2.2.2⟩
set_option maxRecDepth 100000 in
theorem read_req {v : Value} {r : Reach} {b0 : Nat} (hv : Value.okWide Tryd.prog W r b0 31 v) (h : DataW.Trod enc Tryd.prog W base (fun _ => true) true 31 v d p) :
    ∃ (c : Msg.Req) (u : Value × Value), v = .agg (reqCells c u.1 u.2).toArray ∧ InR c ∧ (TstsB W W.heap.size u.1 c.tests ∧ BlbsB W W.heap.size u.2 c.blobs) := by
  obtain ⟨cs, rfl, hsz⟩ := okWide_struct Tryd.underlying31 hv
  obtain ⟨fuel, hf⟩ := h
  obtain ⟨xs, n, _, _, hl, hlen, hi⟩ := DataW.trod_struct Tryd.underlying31 hf
  have hcells : (Value.agg cs).cells = cs := rfl
  rw [hcells] at hl hi
  have hxl : xs.length = 7 := by rw [hlen]; rfl
  have g : ∀ i (h : i < 7), xs[i]? = some (xs[i]'(by omega)) := fun i h => List.getElem?_eq_getElem (by omega)
  have h0 := hi 0 _ rfl; rw [g 0 (by omega)] at h0
  have h1 := hi 1 _ rfl; rw [g 1 (by omega)] at h1
  have h2 := hi 2 _ rfl; rw [g 2 (by omega)] at h2
  have h3 := hi 3 _ rfl; rw [g 3 (by omega)] at h3
  have h4 := hi 4 _ rfl; rw [g 4 (by omega)] at h4
  have h5 := hi 5 _ rfl; rw [g 5 (by omega)] at h5
  have h6 := hi 6 _ rfl; rw [g 6 (by omega)] at h6
  clear hi g
  obtain ⟨a0, e0, _, w0⟩ := DataW.trod_int Tryd.underlying3 h0
  obtain ⟨z1, e1, l1, b1⟩ := read_u8cells Tryd.underlying28 (by kernel_rfl) h1
  obtain ⟨z2, e2, l2, b2⟩ := read_u8cells Tryd.underlying28 (by kernel_rfl) h2
  obtain ⟨a3, e3, _, w3⟩ := DataW.trod_int Tryd.underlying3 h3
  obtain ⟨z4, e4, l4, b4⟩ := read_u8cells Tryd.underlying28 (by kernel_rfl) h4
  obtain ⟨v5, t5, e5, r5, i5⟩ := read_tests h5
  obtain ⟨v6, t6, e6, r6, i6⟩ := read_blobs h6
  refine ⟨⟨a0, z1, z2, a3, z4, t5, t6⟩, (v5, v6), ?_, ⟨⟨l1, l2, l4⟩, b1, b2, b4, in64_wf w0, in64_wf w3, i5, i6⟩, r5, r6⟩
  have c1 : Tryd.prog.cellsOf 3 = 1 := by kernel_rfl
  have c2 : Tryd.prog.cellsOf 28 = 16 := by kernel_rfl
  have c3 : Tryd.prog.cellsOf 29 = 1 := by kernel_rfl
  have c4 : Tryd.prog.cellsOf 23 = 1 := by kernel_rfl
  have c5 : Tryd.prog.cellsOf 31 = 52 := by kernel_rfl
  replace e0 : (cs.toList.drop 0).take (Tryd.prog.cellsOf 3) = [.int .i64 a0] := e0
  replace e1 : (cs.toList.drop 1).take (Tryd.prog.cellsOf 28) = u8s z1 := e1
  replace e2 : (cs.toList.drop 17).take (Tryd.prog.cellsOf 28) = u8s z2 := e2
  replace e3 : (cs.toList.drop 33).take (Tryd.prog.cellsOf 3) = [.int .i64 a3] := e3
  replace e4 : (cs.toList.drop 34).take (Tryd.prog.cellsOf 28) = u8s z4 := e4
  replace e5 : (cs.toList.drop 50).take (Tryd.prog.cellsOf 29) = [v5] := e5
  replace e6 : (cs.toList.drop 51).take (Tryd.prog.cellsOf 23) = [v6] := e6
  rw [c1] at e0 e3
  rw [c2] at e1 e2 e4
  rw [c3] at e5
  rw [c4] at e6
  have e6' : cs.toList.drop 51 = [v6] := by
    rw [← e6, List.take_of_length_le (by rw [List.length_drop, hl, c5]; omega)]
  congr 1
  apply Array.ext'
  rw [cut_rq cs.toList]
  rw [List.drop_zero] at e0
  rw [e0, e1, e2, e3, e4, e5, e6']
  simp [reqCells]
end
end Go.Proofs.YtfinfkodjkfibaaDoor
