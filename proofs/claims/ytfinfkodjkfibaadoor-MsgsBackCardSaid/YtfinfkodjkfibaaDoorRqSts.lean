/- Stores into elements of lists of blobs and of tests of the call's own. No condition.
A request in a block with blobs of its own, under the stores of the laws. No condition.
Small requests and replies have bytes; requests and replies as the laws make them are right. No condition. -/
import Derived.Test.YtfinfkodjkfibaaDoorHeldAll
import Derived.Test.YtfinfkodjkfibaaDoorReqAll
import Derived.Test.YtfinfkodjkfibaaDoorOne
import Derived.Laws.OwnMore
import Derived.Test.YtfinfkodjkfibaaDoorMsgUs
import Derived.Test.YtfinfkodjkfibaaDoorWithin
import Derived.Test.YtfinfkodjkfibaaDoorMsgLaws
namespace Go.Proofs.YtfinfkodjkfibaaDoor
open Go Go.RowKit
set_option linter.unusedVariables false
set_option maxRecDepth 100000
section
variable {w w' : World} {base g n cap size : Nat} {e : TypeId} {xs : List Value}
theorem own_blk (h : w.ownsRow base e size (.slice (some ⟨g, 0, none⟩) n cap) n xs) : ∃ cur, Blk w g e cur ∧ base ≤ g ∧ n ≤ cap ∧ cap ≤ maxLen ∧ cur.length = cap * size ∧ cur.take (n * size) = xs ∧ xs.length = n * size := by
  obtain ⟨hl, h | ⟨g', cap', cur, hv, hb, hg, hnc, hcm, hcs, ht⟩⟩ := h
  · cases h.1
  · injection hv with e1 _ e3
    injection e1 with e1
    injection e1 with e1
    subst e1 e3
    exact ⟨cur.toList, hg, hb, hnc, hcm, by simpa using hcs, ht, hl⟩
theorem own_mk {cur : List Value} (hb : Blk w g e cur) (h1 : base ≤ g) (h2 : n ≤ cap) (h3 : cap ≤ maxLen) (h4 : cur.length = cap * size) (h5 : cur.take (n * size) = xs) (h6 : xs.length = n * size) : w.ownsRow base e size (.slice (some ⟨g, 0, none⟩) n cap) n xs :=
  ⟨h6, .inr ⟨g, cap, cur.toArray, rfl, h1, hb, h2, h3, by simpa using h4, by simpa using h5⟩⟩
theorem lset_take' (vs cs : List Value) (o m : Nat) (h : o + vs.length ≤ m) (hm : m ≤ cs.length) : (lset cs o vs).take m = lset (cs.take m) o vs := by
  refine List.ext_getElem? fun k => ?_
  by_cases hk : k < m
  · rw [List.getElem?_take_of_lt hk, lset_get _ _ _ _ (by omega), lset_get _ _ _ _ (by rw [List.length_take]; omega), List.getElem?_take_of_lt hk]
  · rw [List.getElem?_eq_none (by rw [List.length_take]; omega), List.getElem?_eq_none (by rw [lset_len, List.length_take]; omega)]
/-- A store of some cells within the row. -/
theorem own_put {cur : List Value} (h1 : base ≤ g) (h2 : n ≤ cap) (h3 : cap ≤ maxLen) (h4 : cur.length = cap * size) (h5 : cur.take (n * size) = xs) (h6 : xs.length = n * size) (o : Nat) (vs : List Value) (ho : o + vs.length ≤ n * size) (hb : Blk w' g e (lset cur o vs)) : w'.ownsRow base e size (.slice (some ⟨g, 0, none⟩) n cap) n (lset xs o vs) := by
  have hle : n * size ≤ cap * size := Nat.mul_le_mul_right _ h2
  refine own_mk hb h1 h2 h3 (by rw [lset_len]; exact h4) ?_ (by rw [lset_len]; exact h6)
  rw [lset_take' _ _ _ _ ho (by rw [h4]; exact hle), h5]
end
section
variable {P : Program} {o : Oper} {a : Act} {w : World} {K : Act → World → Prop} {Q : Exit → Act → World → Prop} {ops : Array Oper} {rest : List Oper} {Q' : Exit → Act → World → Prop}
/-- One cell of a row of one's own is written. -/
theorem wp_store_own1 (ty : TypeId) (x y : Operand) (ho : o.op = .store ty x y) (hd : o.dst = none) {base g n cap size : Nat} {e : TypeId} {xs : List Value} (h : w.ownsRow base e size (.slice (some ⟨g, 0, none⟩) n cap) n xs) (off : Nat) (v : Value)
    (hx : a.eval x = .pointer (some ⟨g, off, none⟩)) (hy : a.eval y = v) (h1 : v.oneCell' = true) (hi : (P.info? ty).map (·.size) = some 1) (hlt : off < xs.length)
    (hK : ∀ w', w'.ownsRow base e size (.slice (some ⟨g, 0, none⟩) n cap) n (xs.set off v) → w.grownBy w' (some g) → K a w') : o.wp P a w K Q := by
  obtain ⟨cur, hb, _, hnc, _, hcl, ht, hl⟩ := own_blk h
  have hc : off < cur.length := by
    have : n * size ≤ cap * size := Nat.mul_le_mul_right _ hnc
    omega
  obtain ⟨s1, s2⟩ := h.stored off v
  refine wp_store_one ty x y ho g off hx v hy (by rw [hb.cell, List.getElem?_eq_getElem hc]; rfl) (h.frozenAt off) h1 hi ?_
  rw [hd]
  exact hK _ s1 s2
end
theorem cellsB_set : ∀ (ns : List Int) (us : List Value) (h : ns.length = us.length) (i : Nat) (k : Int), (cellsB ns us).set (i * 2) (.int .i64 k) = cellsB (ns.set i k) us
  | [], us, _, i, k => by simp [cellsB]
  | n :: ns, u :: us, h, 0, k => by simp [cellsB]
  | n :: ns, u :: us, h, i + 1, k => by
    have ih := cellsB_set ns us (by simpa using h) i k
    rw [show (i + 1) * 2 = i * 2 + 1 + 1 by omega, List.set_cons_succ]
    simp only [cellsB]
    rw [List.set_cons_succ, List.set_cons_succ, ih]
theorem OwnBlbsR.num_cell {w : World} {base g n c : Nat} {l : List Msg.Blb} (h : OwnBlbsR w base (.slice (some ⟨g, 0, none⟩) n c) l) (i : Nat) (hi : i < l.length) : w.cell? ⟨g, i * 2, none⟩ = some (.int .i64 l[i].1) := by
  obtain ⟨us, hl, h1, h2⟩ := h
  obtain ⟨A, c', e⟩ := own_shape h1
  injection e with e1 e2 e3
  subst e1 e2
  obtain ⟨cur, hb, _, hnc, _, hcl, ht, hx⟩ := own_blk h1
  obtain ⟨q1, q2⟩ := cellsB_get (l.map Prod.fst) us (by simp [hl]) i (by omega)
  have hlt : i * 2 < l.length * 2 := by omega
  rw [hb.cell, ← List.getElem?_take_of_lt hlt, ht, q1]
  simp
section
variable {o : Oper} {a : Act} {w : World} {K : Act → World → Prop} {Q : Exit → Act → World → Prop} {ops : Array Oper} {rest : List Oper}
/-- A blob's number is written. -/
theorem wp_store_bnumD (x y : Operand) (ho : o.op = .store 3 x y) (hd : o.dst = none) {base g n c : Nat} {l : List Msg.Blb} (h : OwnBlbsR w base (.slice (some ⟨g, 0, none⟩) n c) l) (i q : Nat) (hi : i < l.length) (hq : q = i * 2) (k : Int)
    (hx : a.eval x = .pointer (some ⟨g, q, none⟩)) (hy : a.eval y = .int .i64 k)
    (hK : ∀ w', OwnBlbsR w' base (.slice (some ⟨g, 0, none⟩) n c) (l.set i (k, l[i].2)) → w.grownBy w' (some g) → K a w') : o.wp Tryd.prog a w K Q := by
  subst hq
  obtain ⟨us, hl, h1, h2⟩ := h
  obtain ⟨A, c', e⟩ := own_shape h1
  injection e with e1 e2 e3
  subst e1 e2 e3
  obtain ⟨cur, hb, _⟩ := own_blk h1
  refine wp_store_own1 3 x y ho hd h1 (i * 2) _ hx hy rfl (by kernel_rfl) (by rw [cellsB_len _ _ (by simp [hl])]; omega) ?_
  intro w' o1 o2
  refine hK w' ⟨us, by simpa using hl, ?_, fun j hj => ?_⟩ o2
  · rw [cellsB_set _ _ (by simp [hl])] at o1
    rw [List.length_set, show (l.set i (k, l[i].2)).map Prod.fst = (l.map Prod.fst).set i k by rw [List.map_set]]
    exact o1
  · rw [List.length_set] at hj
    obtain ⟨u, hu, hr⟩ := h2 j hj
    refine ⟨u, hu, ?_⟩
    have hs : (l.set i (k, l[i].2))[j].2 = l[j].2 := by
      rw [List.getElem_set]
      split
      · rename_i hij; subst hij; rfl
      · rfl
    rw [hs]
    exact hr.pastT hb (by decide) o2
theorem flat_set {f : Msg.Tst → List Value} {s : Nat} : ∀ (l : List Msg.Tst) (hl : ∀ t ∈ l, (f t).length = s) (i : Nat) (hi : i < l.length) (o : Nat) (vs : List Value) (ho : o + vs.length ≤ s) (y : Msg.Tst) (hy : f y = lset (f l[i]) o vs), lset (l.flatMap f) (i * s + o) vs = (l.set i y).flatMap f := fun l hl i hi o vs ho y hy => by
  induction l generalizing i with
  | nil => simp at hi
  | cons t l ih =>
    have ht : (f t).length = s := hl t List.mem_cons_self
    rcases i with _ | i
    · rw [List.getElem_cons_zero] at hy
      rw [Nat.zero_mul, Nat.zero_add, List.flatMap_cons, List.set_cons_zero, List.flatMap_cons, hy]
      refine List.ext_getElem? fun k => ?_
      rw [lset_get _ _ _ _ (by rw [List.length_append]; omega)]
      by_cases hk : k < (f t).length
      · rw [List.getElem?_append_left hk, List.getElem?_append_left (by rw [lset_len]; exact hk), lset_get _ _ _ _ (by omega)]
      · rw [if_neg (by omega), List.getElem?_append_right (by omega), List.getElem?_append_right (by rw [lset_len]; omega), lset_len]
    · have hi' : i < l.length := by simpa using hi
      have := ih (fun x hx => hl x (List.mem_cons_of_mem _ hx)) i hi' (by simpa using hy)
      rw [List.flatMap_cons, List.set_cons_succ, List.flatMap_cons, ← this]
      have hlen : (l.flatMap f).length = l.length * s := by
        clear this ih hy hi hi'
        induction l with
        | nil => simp
        | cons a l ih => rw [List.flatMap_cons, List.length_append, hl a (by simp), ih (fun x hx => hl x (by rcases List.mem_cons.1 hx with h | h <;> simp [h])), List.length_cons, Nat.succ_mul]; omega
      have hb : i * s + s ≤ l.length * s := by rw [← Nat.succ_mul]; exact Nat.mul_le_mul_right _ hi'
      refine List.ext_getElem? fun k => ?_
      rw [lset_get _ _ _ _ (by rw [List.length_append, Nat.succ_mul]; omega)]
      rw [Nat.succ_mul]
      by_cases hk : k < (f t).length
      · rw [if_neg (by omega), List.getElem?_append_left hk, List.getElem?_append_left hk]
      · rw [List.getElem?_append_right (by omega), List.getElem?_append_right (by omega), lset_get _ _ _ _ (by omega)]
        by_cases h2 : i * s + s + o ≤ k ∧ k < i * s + s + o + vs.length
        · rw [if_pos h2, if_pos (by omega)]
          congr 1; omega
        · rw [if_neg h2, if_neg (by omega)]
theorem OwnTsts.cells {w : World} {base g n c : Nat} {l : List Msg.Tst} (h : OwnTsts w base (.slice (some ⟨g, 0, none⟩) n c) l) (i : Nat) (hi : i < l.length) : w.rangeAt g (i * 34) (tstC l[i]) := fun j u hu => by
  obtain ⟨h1, hw⟩ := h
  obtain ⟨A, c', e⟩ := own_shape h1
  injection e with e1 e2 e3
  subst e1 e2
  obtain ⟨cur, hb, _, hnc, _, hcl, ht, hx⟩ := own_blk h1
  have hj := (List.getElem?_eq_some_iff.1 hu).1
  rw [tst_len (hw _ (List.getElem_mem hi))] at hj
  rw [hb.cell, ← List.getElem?_take_of_lt (by omega : i * 34 + j < l.length * 34), ht]
  exact tsts_get l hw i hi j u hu
/-- A test's number is written. -/
theorem wp_store_tnumD (x y : Operand) (ho : o.op = .store 3 x y) (hd : o.dst = none) {base g n c : Nat} {l : List Msg.Tst} (h : OwnTsts w base (.slice (some ⟨g, 0, none⟩) n c) l) (i q : Nat) (hi : i < l.length) (hq : q = i * 34) (k : Int)
    (hx : a.eval x = .pointer (some ⟨g, q, none⟩)) (hy : a.eval y = .int .i64 k)
    (hK : ∀ w', OwnTsts w' base (.slice (some ⟨g, 0, none⟩) n c) (l.set i { l[i] with num := k }) → w.grownBy w' (some g) → K a w') : o.wp Tryd.prog a w K Q := by
  subst hq
  obtain ⟨h1, hw⟩ := h
  obtain ⟨A, c', e⟩ := own_shape h1
  injection e with e1 e2 e3
  subst e1 e2 e3
  refine wp_store_own1 3 x y ho hd h1 (i * 34) _ hx hy rfl (by kernel_rfl) (by rw [tsts_len _ hw]; omega) ?_
  intro w' o1 o2
  refine hK w' ⟨?_, fun t ht => ?_⟩ o2
  · rw [List.length_set, ← flat_set l (s := 34) (fun t ht => tst_len (hw t ht)) i hi 0 [.int .i64 k] (by simp) { l[i] with num := k } rfl]
    exact o1
  · rcases List.mem_or_eq_of_mem_set ht with ht | rfl
    · exact hw t ht
    · exact hw l[i] (List.getElem_mem hi)
/-- A test's row is written. -/
theorem wpList_store_twant (x y : Operand) (ho : o.op = .store 58 x y) (hgd : o.guard = none) {base g n c : Nat} {l : List Msg.Tst} (h : OwnTsts w base (.slice (some ⟨g, 0, none⟩) n c) l) (i q : Nat) (hi : i < l.length) (hq : q = i * 34 + 2) (z : List Int) (hz : z.length = 32)
    (hx : a.eval x = .pointer (some ⟨g, q, none⟩)) (hy : a.eval y = .agg (u8s z).toArray) (hsz : (Tryd.prog.info? 58).map (·.size) = some 32)
    (hK : ∀ w', OwnTsts w' base (.slice (some ⟨g, 0, none⟩) n c) (l.set i { l[i] with want := z }) → w.grownBy w' (some g) → wpList Tryd.prog ops Q rest (a.put o.dst undef) w') : wpList Tryd.prog ops Q (o :: rest) a w := by
  subst hq
  obtain ⟨h1, hw⟩ := h
  obtain ⟨A, c', e⟩ := own_shape h1
  injection e with e1 e2 e3
  subst e1 e2 e3
  obtain ⟨cur, hb, q1, q2, q3, q4, q5, q6⟩ := own_blk h1
  have hle : l.length * 34 ≤ c * 34 := Nat.mul_le_mul_right _ q2
  refine wpList_store_blk hgd 58 x y ho g (i * 34 + 2) (u8s z) hx hy _ cur hb (by rw [u8s_len, hz]; omega) (by rw [u8s_len, hz]; exact hsz) (u8s_one _) ?_
  intro w' a1 a2 a3
  refine hK w' ⟨?_, fun t ht => ?_⟩ a2
  · have := own_put (w' := w') q1 q2 q3 q4 q5 q6 (i * 34 + 2) (u8s z) (by rw [u8s_len, hz]; omega) a1
    rw [List.length_set, ← flat_set l (s := 34) (fun t ht => tst_len (hw t ht)) i hi 2 (u8s z) (by rw [u8s_len, hz]; omega) { l[i] with want := z } ?_]
    · exact this
    · show .int .i64 l[i].num :: .bool l[i].absent :: u8s z = lset (.int .i64 l[i].num :: .bool l[i].absent :: u8s l[i].want) 2 (u8s z)
      refine List.ext_getElem? fun k => ?_
      have hwl := hw _ (List.getElem_mem hi)
      rw [lset_get _ _ _ _ (by simp [u8s_len, hz, hwl]), u8s_len, hz]
      rcases k with _ | _ | k
      · rfl
      · rfl
      · by_cases hk : k < 32
        · rw [if_pos (by omega)]; simp
        · rw [if_neg (by omega), List.getElem?_eq_none (by simp [u8s_len, hz]; omega), List.getElem?_eq_none (by simp [u8s_len, hwl]; omega)]
  · rcases List.mem_or_eq_of_mem_set ht with ht | rfl
    · exact hw t ht
    · exact hz
end
end Go.Proofs.YtfinfkodjkfibaaDoor

namespace Go.Proofs.YtfinfkodjkfibaaDoor
open Go Go.RowKit
set_option linter.unusedVariables false
set_option maxRecDepth 100000
/-- Blobs of the call's own, from wherever on. -/
def BlbSt (w : World) (v : Value) (l : List Msg.Blb) : Prop := ∃ base, OwnBlbs w base v l ∧ base ≤ w.heap.size
section
variable {w w' : World} {v : Value} {l : List Msg.Blb}
theorem BlbSt.kept (h : BlbSt w v l) (hb : Below w.heap.size w w') : BlbSt w' v l := by
  obtain ⟨b, h, hB⟩ := h
  exact ⟨b, h.keptB hb hB, Nat.le_trans hB hb.size⟩
theorem BlbSt.reads (h : BlbSt w v l) : BlbsB w w.heap.size v l := by
  obtain ⟨b, h, hB⟩ := h
  exact h.reads hB
theorem BlbSt.one (h : BlbSt w v l) : v.oneCell' = true := by
  obtain ⟨b, h, hB⟩ := h
  exact h.one
theorem BlbSt.noB (h : BlbSt w v l) : (∀ b, v ≠ .bool b) ∧ ∀ n, v ≠ .int .u8 n := h.reads.noB
theorem BlbSt.keep {g : Nat} {q q' : Msg.Req} {vt vb vt' vb' : Value} (h : BlbSt w v l) (hg : w.grownBy w' (some g)) (hk : ReqB w g q vt vb) (hk' : ReqB w' g q' vt' vb') (hi : q'.index = q.index) (hs : q'.secret = q.secret) (he : q'.enable = q.enable) (h1 : ∀ n, vt ≠ .int .u8 n) (h2 : ∀ n, vb ≠ .int .u8 n) : BlbSt w' v l := by
  obtain ⟨b, h, hB⟩ := h
  exact ⟨b, h.keepU8 hB hg hk.blk hk'.blk (rq_keep hk.keys hk'.keys hi hs he h1 h2) (by decide) (by decide), Nat.le_trans hB hg.size⟩
end
/-- A request in a block: nt: its tests are none. -/
structure RqSt (w : World) (g : Nat) (q : Msg.Req) (vt vb : Value) : Prop where
  rq : ReqB w g q vt vb
  bl : BlbSt w vb q.blobs
  nt : ∀ n, vt ≠ .int .u8 n
theorem RqSt.grown {w w' : World} {g gc : Nat} {q qc qc' : Msg.Req} {vt vb tc bc tc' bc' : Value} (h : RqSt w g q vt vb) (hne : g ≠ gc) (hg : w.grownBy w' (some gc)) (hk : ReqB w gc qc tc bc) (hk' : ReqB w' gc qc' tc' bc') (hi : qc'.index = qc.index) (hs : qc'.secret = qc.secret) (he : qc'.enable = qc.enable) (h1 : ∀ n, tc ≠ .int .u8 n) (h2 : ∀ n, bc ≠ .int .u8 n) : RqSt w' g q vt vb :=
  ⟨h.rq.grown hg (by intro e; injection e with e; exact hne e), h.bl.keep hg hk hk' hi hs he h1 h2, h.nt⟩
theorem RqSt.below {w w' : World} {g : Nat} {q : Msg.Req} {vt vb : Value} (h : RqSt w g q vt vb) (hb : Below w.heap.size w w') : RqSt w' g q vt vb :=
  ⟨h.rq.below hb h.rq.lt, h.bl.kept hb, h.nt⟩
theorem ReqB.range0 {w : World} {g : Nat} {q : Msg.Req} {vt vb : Value} (h : ReqB w g q vt vb) : ∀ j u, (reqCells q vt vb)[j]? = some u → w.cell? ⟨g, 0 + j, none⟩ = some u := fun j u hu => by
  rw [h.blk.cell, Nat.zero_add]; exact hu
theorem ReqB.cellK {w : World} {g : Nat} {q : Msg.Req} {vt vb : Value} (h : ReqB w g q vt vb) : w.cell? ⟨g, 0, none⟩ = some (.int .i64 q.kind) := by rw [h.blk.cell]; rfl
theorem ReqB.cellE {w : World} {g : Nat} {q : Msg.Req} {vt vb : Value} (h : ReqB w g q vt vb) : w.cell? ⟨g, 33, none⟩ = some (.int .i64 q.ends) := by rw [h.blk.cell]; exact rq_ends h.keys
theorem ReqB.cellT {w : World} {g : Nat} {q : Msg.Req} {vt vb : Value} (h : ReqB w g q vt vb) : w.cell? ⟨g, 50, none⟩ = some vt := by rw [h.blk.cell]; exact rq_tests h.keys
theorem ReqB.cellB {w : World} {g : Nat} {q : Msg.Req} {vt vb : Value} (h : ReqB w g q vt vb) : w.cell? ⟨g, 51, none⟩ = some vb := by rw [h.blk.cell]; exact rq_blobs h.keys
section
variable {o : Oper} {a : Act} {w : World} {K : Act → World → Prop} {Q : Exit → Act → World → Prop} {g : Nat} {q : Msg.Req} {vt vb : Value}
theorem wp_rq_putAllD (x y : Operand) (ho : o.op = .store 31 x y) (hd : o.dst = none) (hx : a.eval x = .pointer (some ⟨g, 0, none⟩)) (hB : ReqB w g q vt vb) (q' : Msg.Req) (vt' vb' : Value) (hy : a.eval y = .agg (reqCells q' vt' vb').toArray) (hk : KeysR q') (h1 : vt'.oneCell' = true) (h2 : vb'.oneCell' = true)
    (hK : ∀ w', ReqB w' g q' vt' vb' → w.grownBy w' (some g) → K a w') : o.wp Tryd.prog a w K Q := by
  refine wp_store_blkD 31 _ _ ho hd g 0 (reqCells q' vt' vb') hx hy _ _ hB.blk (by rw [rq_len hB.keys, rq_len hk]; omega) (by rw [rq_len hk]; exact size_req) (rq_one h1 h2) ?_
  intro ws hbs hgs _
  rw [lset_all _ _ (by rw [rq_len hB.keys, rq_len hk])] at hbs
  exact hK ws ⟨hbs, hk, h1, h2⟩ hgs
theorem wp_rq_put1D (ty : TypeId) (x y : Operand) (ho : o.op = .store ty x y) (hd : o.dst = none) (off : Nat) (hx : a.eval x = .pointer (some ⟨g, off, none⟩)) (hB : ReqB w g q vt vb) (v : Value) (hy : a.eval y = v) (h1 : v.oneCell' = true) (hi : (Tryd.prog.info? ty).map (·.size) = some 1) (hlt : off < 52) (q' : Msg.Req) (vt' vb' : Value) (he : (reqCells q vt vb).set off v = reqCells q' vt' vb') (hk : KeysR q') (h2 : vt'.oneCell' = true) (h3 : vb'.oneCell' = true)
    (hK : ∀ w', ReqB w' g q' vt' vb' → w.grownBy w' (some g) → K a w') : o.wp Tryd.prog a w K Q := by
  have hg := grown_setCells (g := g) [v] w off
  refine wp_store_one ty x y ho g off hx _ hy (by rw [hB.blk.cell, List.getElem?_eq_getElem (by rw [rq_len hB.keys]; exact hlt)]; rfl) (hB.blk.frozen _) h1 hi ?_
  rw [hd]
  exact hK _ ⟨by rw [← he]; exact hB.blk.set_ _ _, hk, h2, h3⟩ hg.1
end
end Go.Proofs.YtfinfkodjkfibaaDoor

namespace Go.Proofs.YtfinfkodjkfibaaDoor
open Go Go.RowKit
set_option linter.unusedVariables false
theorem within_range (v n : Int) (hn : ¬ n < 1) : 0 ≤ within v n ∧ within v n < n := by
  have := tmod_bounds v n hn
  rw [tmod_within v n hn]
  split <;> omega
namespace Msg
theorem netF_le (x : List Int) (h : x.length ≤ 100) : (netF x).length ≤ 121 := by
  have := digits_bound x.length (by omega)
  simp only [netF, List.length_append, List.length_singleton]
  omega
theorem netsF_le : ∀ (l : List (List Int)), (∀ x ∈ l, x.length ≤ 100) → (netsF l).length ≤ 121 * l.length
  | [], _ => by simp [netsF]
  | x :: l, h => by
    have h1 := netF_le x (h x List.mem_cons_self)
    have h2 := netsF_le l (fun y hy => h y (List.mem_cons_of_mem _ hy))
    rw [netsF_cons, List.length_append, List.length_cons]
    omega
theorem put4_len (n : Int) : (putF n 4).length ≤ 100 := by
  have h : (putF n 4).length = wid 4 := putN_len _ _
  have := wid_le 4
  omega
theorem put1_len' (n : Int) : (putF n 1).length ≤ 100 := by
  have h : (putF n 1).length = wid 1 := putN_len _ _
  have := wid_le 1
  omega
theorem blobRows_cnt : ∀ (l : List Blb), (l.flatMap blobR).length = 2 * l.length
  | [] => rfl
  | x :: l => by
    have := blobRows_cnt l
    rw [List.flatMap_cons, List.length_append, List.length_cons, this]
    simp [blobR]; omega
theorem testRows_cnt : ∀ (l : List Tst), (l.flatMap testR).length = 3 * l.length
  | [] => rfl
  | x :: l => by
    have := testRows_cnt l
    rw [List.flatMap_cons, List.length_append, List.length_cons, this]
    simp [testR]; omega
theorem blobs_small {l : List Blb} (hb : ∀ x ∈ l, x.2.length ≤ 100) : ∀ x ∈ blobRows l, x.length ≤ 100 := fun x hx => by
  unfold blobRows at hx
  rcases List.mem_cons.1 hx with rfl | hx
  · exact put1_len' _
  · obtain ⟨y, hy, hx⟩ := List.mem_flatMap.1 hx
    simp only [blobR, List.mem_cons, List.not_mem_nil, or_false] at hx
    rcases hx with rfl | rfl
    · exact put1_len' _
    · exact hb y hy
theorem ask_small {q : Req} (R : RightR q) (hb : ∀ x ∈ q.blobs, x.2.length ≤ 100) (h1 : q.tests.length ≤ 10) (h2 : q.blobs.length ≤ 10) : ∃ b, askF q = some b ∧ 0 < b.length := by
  have hlen : (askRows q).length ≤ 57 := by
    unfold askRows blobRows
    simp only [List.length_cons, List.length_append, testRows_cnt, blobRows_cnt]
    omega
  have hrow : ∀ x ∈ askRows q, x.length ≤ 100 := fun x hx => by
    unfold askRows at hx
    simp only [List.mem_cons, List.mem_append, List.mem_flatMap] at hx
    rcases hx with rfl | rfl | rfl | rfl | rfl | rfl | ⟨t, ht, hx⟩ | hx
    · exact put1_len' _
    · rw [R.index.1]; omega
    · rw [R.secret.1]; omega
    · exact put4_len _
    · rw [R.enable.1]; omega
    · exact put1_len' _
    · simp only [testR, List.mem_cons, List.not_mem_nil, or_false] at hx
      rcases hx with rfl | rfl | rfl
      · exact put1_len' _
      · simp [bitL]
      · rw [(R.tests.2 t ht).2.1]; omega
    · exact blobs_small hb x hx
  have := netsF_le _ hrow
  refine ⟨netsF (askRows q), ?_, ?_⟩
  · unfold askF
    rw [if_neg (by omega), if_neg (by omega)]
  · have hc : 0 < (netsF (askRows q)).length := by
      unfold askRows
      rw [netsF_cons, List.length_append]
      have := netF_pos (putF q.kind 1)
      omega
    exact hc
end Msg
/-- A request as MsgsUnlike makes it of a small one. -/
def normU (q : Msg.Req) : Msg.Req := ⟨1 + within q.kind 6, q.index, q.secret, within q.ends 1000, q.enable, [], (q.blobs.take 5).map fun x => (within x.1 16, x.2)⟩
theorem normU_right {q : Msg.Req} (h : InR q) : Msg.RightR (normU (cutR q)) where
  kind := by have := within_range q.kind 6 (by omega); show 1 ≤ 1 + within q.kind 6 ∧ 1 + within q.kind 6 ≤ 6; omega
  ends := by have := within_range q.ends 1000 (by omega); show 0 ≤ within q.ends 1000 ∧ within q.ends 1000 ≤ 1048576; omega
  index := ⟨h.keys.i, h.bi⟩
  secret := ⟨h.keys.s, h.bs⟩
  enable := ⟨h.keys.e, h.be⟩
  tests := ⟨by show ([] : List Msg.Tst).length ≤ 32; simp, fun t ht => by cases ht⟩
  blobs := by
    refine ⟨?_, fun x hx => ?_⟩
    · show (((cutB 34 q.blobs).take 5).map fun x => (within x.1 16, x.2)).length ≤ 32
      rw [List.length_map, List.length_take]; omega
    · obtain ⟨y, hy, rfl⟩ := List.mem_map.1 hx
      have := cutB_in (k := 34) h.blobs y (List.mem_of_mem_take hy)
      refine ⟨within_range y.1 16 (by omega), this.1, ?_⟩
      show y.2.length ≤ 16384
      omega
theorem normU_small {q : Msg.Req} (h : InR q) : ∃ b, Msg.askF (normU (cutR q)) = some b ∧ 0 < b.length := by
  refine Msg.ask_small (normU_right h) (fun x hx => ?_) (by show ([] : List Msg.Tst).length ≤ 10; simp) ?_
  · obtain ⟨y, hy, rfl⟩ := List.mem_map.1 hx
    exact (cutB_in (k := 34) h.blobs y (List.mem_of_mem_take hy)).2.2
  · show (((cutB 34 q.blobs).take 5).map fun x => (within x.1 16, x.2)).length ≤ 10
    rw [List.length_map, List.length_take]; omega
end Go.Proofs.YtfinfkodjkfibaaDoor
