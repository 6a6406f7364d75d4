/- What MsgsUnlike needs: the two requests in their blocks, round by round. No condition. -/
import Derived.Test.YtfinfkodjkfibaaDoorRqSts
import Derived.Test.YtfinfkodjkfibaaDoorCopies
import Derived.Test.YtfinfkodjkfibaaDoorSym
namespace Go.Proofs.YtfinfkodjkfibaaDoor
open Go Go.RowKit
set_option linter.unusedVariables false
set_option maxRecDepth 100000
/-- What stands of a request that was cut small. -/
structure SmallQ (q : Msg.Req) : Prop where
  keys : KeysR q
  kind : In64 q.kind
  ends : In64 q.ends
  blobs : ∀ x ∈ q.blobs, Bytes x.2 ∧ In64 x.1 ∧ x.2.length ≤ 100
theorem smallQ {q : Msg.Req} (h : InR q) : SmallQ (cutR q) := ⟨⟨h.keys.i, h.keys.s, h.keys.e⟩, h.kind, h.ends, cutB_in (k := 34) h.blobs⟩
theorem normU_keys {q : Msg.Req} (h : KeysR q) : KeysR (normU q) := ⟨h.i, h.s, h.e⟩
abbrev nilV : Value := .slice none 0 0
/-- Blobs of the call's own, each row too, from wherever on. -/
def BlbStR (w : World) (v : Value) (l : List Msg.Blb) : Prop := ∃ base, OwnBlbsR w base v l ∧ base ≤ w.heap.size
theorem BlbStR.st {w : World} {v : Value} {l : List Msg.Blb} (h : BlbStR w v l) : BlbSt w v l := by
  obtain ⟨b, h, hb⟩ := h
  exact ⟨b, h.toB, hb⟩
theorem BlbStR.past {w w' : World} {v : Value} {l : List Msg.Blb} {g : Nat} {q : Msg.Req} {vt vb : Value} (h : BlbStR w v l) (hk : ReqB w g q vt vb) (hg : w.grownBy w' (some g)) : BlbStR w' v l := by
  obtain ⟨b, h, hb⟩ := h
  exact ⟨b, h.past hk.blk (by decide) (by decide) hg, Nat.le_trans hb hg.size⟩
/-- The two requests at the head of round i. -/
structure UInv (w : World) (g4 gp : Nat) (qa qb : Msg.Req) (i : Nat) (wr : World) : Prop where
  a : ∃ vt vb, RqSt wr g4 (if 0 < i then normU qa else qa) vt vb ∧ (0 < i → vt = nilV ∧ BlbStR wr vb (normU qa).blobs)
  b : ∃ vt vb, RqSt wr (g4 + 1) (if 1 < i then normU qb else qb) vt vb ∧ (1 < i → vt = nilV)
  p : Blk wr gp 47 [.pointer (some ⟨g4, 0, none⟩), .pointer (some ⟨g4 + 1, 0, none⟩)]
  bel : Below g4 w wr
  lt : g4 + 1 < gp
theorem UInv.round {w wr : World} {g4 gp i : Nat} {qa qb : Msg.Req} (h : UInv w g4 gp qa qb i wr) (hi : i < 2) (sa : SmallQ qa) (sb : SmallQ qb) :
    ∃ gc qc vt vb, (g4 ≤ gc ∧ gc < gp ∧ gp < wr.heap.size) ∧ wr.cell? ⟨gp, i, none⟩ = some (.pointer (some ⟨gc, 0, none⟩)) ∧ SmallQ qc ∧ RqSt wr gc qc vt vb ∧
      ∀ w' vb', wr.grownBy w' (some gc) → RqSt w' gc (normU qc) nilV vb' → BlbStR w' vb' (normU qc).blobs → UInv w g4 gp qa qb (i + 1) w' := by
  obtain ⟨⟨ta, ba, ha, na⟩, ⟨tb, bb, hb, nb⟩, hp, hbel, hlt⟩ := h
  have hgp := hp.lt
  have hz := hbel.size
  have hal := ha.rq.lt
  have hbl := hb.rq.lt
  have hw : g4 ≤ wr.heap.size := by omega
  rcases i with _ | _ | i
  · rw [if_neg (by omega)] at ha hb
    refine ⟨g4, qa, ta, ba, ⟨by omega, by omega, hgp⟩, by rw [hp.cell]; rfl, sa, ha, fun w' vb' hg hr hrr => ⟨⟨_, _, by rw [if_pos (by omega)]; exact hr, fun _ => ⟨rfl, hrr⟩⟩, ⟨tb, bb, ?_, fun h => by omega⟩, hp.grown hg (by intro e; injection e; omega), hbel.grown hg hw (by intro k hk; injection hk; omega), hlt⟩⟩
    rw [if_neg (by omega)]
    exact hb.grown (by omega) hg ha.rq hr.rq rfl rfl rfl ha.nt ha.bl.noB.2
  · rw [if_pos (by omega)] at ha
    rw [if_neg (by omega)] at hb
    refine ⟨g4 + 1, qb, tb, bb, ⟨by omega, by omega, hgp⟩, by rw [hp.cell]; rfl, sb, hb, fun w' vb' hg hr hrr => ⟨⟨ta, ba, ?_, fun _ => ⟨(na (by omega)).1, (na (by omega)).2.past hb.rq hg⟩⟩, ⟨_, _, by rw [if_pos (by omega)]; exact hr, fun _ => rfl⟩, hp.grown hg (by intro e; injection e; omega), hbel.grown hg hw (by intro k hk; injection hk; omega), hlt⟩⟩
    rw [if_pos (by omega)]
    exact ha.grown (by omega) hg hb.rq hr.rq rfl rfl rfl hb.nt hb.bl.noB.2
  · omega
/-- A row that is new stands behind what was. -/
theorem grown_new {w1 w2 w3 : World} {row : Option Nat} {g : Nat} (h : w1.grownBy w2 row) (h' : w2.grownBy w3 (some g)) (hg : w1.heap.size ≤ g) : w1.grownBy w3 row :=
  ⟨h'.os.trans h.os, h'.tape.trans h.tape, h'.output.trans h.output, Nat.le_trans h.size h'.size, fun k hk hne => by
    rw [h'.block k (Nat.lt_of_lt_of_le hk h.size) (by intro e; injection e; omega), h.block k hk hne]⟩
theorem grown_below' {w1 w2 w3 : World} {row : Option Nat} (h : w1.grownBy w2 row) (h' : Below w2.heap.size w2 w3) : w1.grownBy w3 row :=
  ⟨h'.os.trans h.os, h'.tape.trans h.tape, h'.output.trans h.output, Nat.le_trans h.size h'.size, fun k hk hne => by
    rw [h'.block k (Nat.lt_of_lt_of_le hk h.size), h.block k hk hne]⟩
theorem OwnBlbsR.blk_ {w : World} {base n c : Nat} {A : Option Addr} {l : List Msg.Blb} (h : OwnBlbsR w base (.slice A n c) l) (h0 : 0 < l.length) : ∃ g, A = some ⟨g, 0, none⟩ ∧ base ≤ g ∧ g < w.heap.size := by
  obtain ⟨us, hl, h1, _⟩ := h
  obtain ⟨_, h | ⟨g, cap, cur, hv, hb, hg, _⟩⟩ := h1
  · omega
  · injection hv with e1 _ _
    refine ⟨g, e1, hb, ?_⟩
    exact (show Blk w g 44 cur.toList from hg).lt
/-- Blobs whose first j numbers are written. -/
def normB (l : List Msg.Blb) (j : Nat) : List Msg.Blb := ((l.take j).map fun x => (within x.1 16, x.2)) ++ l.drop j
theorem normB_zero (l : List Msg.Blb) : normB l 0 = l := rfl
theorem normB_len (l : List Msg.Blb) (j : Nat) : (normB l j).length = l.length := by
  unfold normB
  rw [List.length_append, List.length_map, List.length_take, List.length_drop]
  omega
theorem normB_all (l : List Msg.Blb) (j : Nat) (h : l.length ≤ j) : normB l j = l.map fun x => (within x.1 16, x.2) := by
  unfold normB
  rw [List.take_of_length_le h, List.drop_eq_nil_of_le h, List.append_nil]
theorem normB_get (l : List Msg.Blb) (j : Nat) (h : j < l.length) : (normB l j)[j]'(by rw [normB_len]; exact h) = l[j] := by
  unfold normB
  rw [List.getElem_append_right (by rw [List.length_map, List.length_take]; omega)]
  simp only [List.length_map, List.length_take, List.getElem_drop]
  congr 1
  omega
theorem normB_set (l : List Msg.Blb) (j : Nat) (h : j < l.length) : (normB l j).set j (within l[j].1 16, l[j].2) = normB l (j + 1) := by
  unfold normB
  have hl : ((l.take j).map fun x : Msg.Blb => (within x.1 16, x.2)).length = j := by rw [List.length_map, List.length_take]; omega
  rw [List.set_append_right _ _ (by omega), hl, Nat.sub_self, List.drop_eq_getElem_cons h, List.set_cons_zero, List.take_succ_eq_append_getElem h, List.map_append, List.append_assoc]
  rfl
section
variable {o : Oper} {a : Act} {w : World} {K : Act → World → Prop} {Q : Exit → Act → World → Prop} {ops : Array Oper} {rest : List Oper}
theorem wp_valueD (d : Nat) (hd : o.dst = some d) (v : Value) (h0 : (execOp a.eval o).run Tryd.prog w = .ok (.value v) w) (h : K (a.put (some d) v) w) : o.wp Tryd.prog a w K Q :=
  wp_value v h0 (by rw [hd]; exact h)
theorem exec_nilP (x : Operand) (ho : o.op = .nilCheck x) (p : Addr) (hx : a.eval x = .pointer (some p)) : (execOp a.eval o).run Tryd.prog w = .ok (.value (.pointer (some p))) w := by
  unfold execOp
  simp only [ho, hx]
  rfl
theorem el_ptrs : ElemOf Tryd.prog 48 47 1 8 := elem_of Tryd.underlying48 (z := .pointer none) (by kernel_rfl) rfl (by decide) (by decide)
theorem wpList_lit_ptrs (hgd : o.guard = none) (x y : Operand) (ho : o.op = .buildSlice 48 2 #[(0, x), (1, y)]) (p1 p2 : Addr) (hx : a.eval x = .pointer (some p1)) (hy : a.eval y = .pointer (some p2))
    (h : ∀ w', Blk w' w.heap.size 47 [.pointer (some p1), .pointer (some p2)] → Below w.heap.size w w' → wpList Tryd.prog ops Q rest (a.put o.dst (.slice (some ⟨w.heap.size, 0, none⟩) 2 2)) w') : wpList Tryd.prog ops Q (o :: rest) a w := by
  obtain ⟨i, z, hu, hi, hz, hsize, hby, hzs, _, _⟩ := el_ptrs
  refine wpList_buildSlice hgd 48 47 2 _ ho #[.pointer (some p1), .pointer (some p2)] i z hu hi hz (by rw [hsize]; omega) (by rw [hsize]; omega) ?_ (h _ (Blk.new w 47 [.pointer (some p1), .pointer (some p2)]) ((Below.refl _ _).alloc (Nat.le_refl _) _))
  have e : (#[(0, x), (1, y)].map fun (p : Nat × Operand) => (p.1, a.eval p.2)).toList = ([Value.pointer (some p1), Value.pointer (some p2)].zipIdx 0).map fun x => (x.2, x.1) := by simp [hx, hy]
  rw [e, hsize]
  have := Great.fill_whole (s := 1) (by decide) [Value.pointer (some p1), Value.pointer (some p2)] ((Array.range (2 * 1)).map (z.cells[· % z.cells.size]!)) (by intro u hu; simp only [List.mem_cons, List.not_mem_nil, or_false] at hu; rcases hu with rfl | rfl <;> rfl) (by simp)
  rw [this]
  rfl
theorem exec_neqB (x y : Operand) (t' : TypeId) (ho : o.op = .binOp .neq 4 x y t') (p q : Bool) (hx : a.eval x = .bool p) (hy : a.eval y = .bool q) (r : Bool) (hr : (p != q) = r) : (execOp a.eval o).run Tryd.prog w = .ok (.value (.bool r)) w := by
  subst hr
  unfold execOp
  simp only [ho, hx, hy]
  go_simp
  try (cases p <;> cases q <;> rfl)
end
end Go.Proofs.YtfinfkodjkfibaaDoor
